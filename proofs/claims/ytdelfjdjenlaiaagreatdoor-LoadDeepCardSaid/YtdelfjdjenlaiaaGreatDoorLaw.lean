/- Plain functions for the program's. -/
import Derived.Test.YtdelfjdjenlaiaaGreatDoorFa
import Derived.Test.YtdelfjdjenlaiaaGreatDoorGvSpecX
import Derived.Test.YtdelfjdjenlaiaaGreatDoorGs
set_option linter.unusedSimpArgs false
set_option linter.unusedVariables false
namespace Go.Proofs.YtdelfjdjenlaiaaGreatDoor
open Go Go.Iv Go.Gv
set_option maxRecDepth 100000
noncomputable def hex (_n:Nat) (c:Int):Option dg:=
 Option.bind (bif (aQ 48 c) then
 some (aQ c 57)
 else
 some false) fun b1=>
 bif b1 then
 none
 else
 Option.bind (bif (aQ 97 c) then
 some (aQ c 102)
 else
 some false) fun b3=>
 bif b3 then
 some ((zal ((zal (c - 97))+10)),())
 else
 none
noncomputable def QW:bu:=⟨115,[(false,am)],[(false,am)],1,fun n x=>hex n x.1⟩
theorem VU (n:Nat):aI Tryz.prog hint aG QW n:=
 aI.of (hk:=fun β=>(an.mk [] []).hk β) (sh:=aG) (fun m _=>ab.aK ab.nil m) (fun x=>by kernel_rfl)
noncomputable def word (_n:Nat) (c:Int):Option d8:=
 Option.bind (bif (aQ 48 c) then
 some (aQ c 57)
 else
 some false) fun b1=>
 bif b1 then
 some (true,())
 else
 Option.bind (bif (aQ 97 c) then
 some (aQ c 122)
 else
 some false) fun b3=>
 bif b3 then
 some (true,())
 else
 Option.bind (bif (aQ 65 c) then
 some (aQ c 90)
 else
 some false) fun b5=>
 bif b5 then
 some (true,())
 else
 some ((c==45),())
noncomputable def KC:bu:=⟨179,[(false,am)],[(false,.bool)],1,fun n x=>word n x.1⟩
theorem Ul (n:Nat):aI Tryz.prog hint aG KC n:=
 aI.of (hk:=fun β=>(an.mk [] []).hk β) (sh:=aG) (fun m _=>ab.aK ab.nil m) (fun x=>by kernel_rfl)
noncomputable def pf:Tm:=⟨[(2,ac)],[],64,64,1000⟩
noncomputable def AI:Tm:=⟨[(0,.one (.aC am)),(34,.one (.aC .byte)),(35,ac),(36,ac)],[],64,64,1000⟩
noncomputable def Dc:Nat->bv->d7->Int->Int->Option mt
 |0,_,_,_,_=>none
 |n+1,t0,t34,t35,t36=>
 bif (aR t36 t35) then
 bif (aQ 0 t36) then
 Option.bind (t34[(Int.toNat t36)]?) fun x7=>
 Option.bind (t0[0]?) fun x8=>
 bif (x8==(zal (ub x7))) then
 some ((1,()),())
 else
 Dc n t0 t34 t35 (zal (t36+1))
 else none
 else
 none
noncomputable def vO:aM:=⟨151,10,none,AI,[(.ret,pf)],0,fun n x=>Dc n x.1.1 x.1.2.1 x.1.2.2.1 x.1.2.2.2.1,[],[]⟩
theorem uz:pf.ok Tryz.prog hint:=Tm.dq rfl
theorem q0:AI.ok Tryz.prog hint:=Tm.dq rfl
theorem IC:∀ n,ao Tryz.prog hint aG vO n:=
 ao.of (hk:=fun β=>(an.mk [] []).hk β) (sh:=aG) (aL.of (by kernel_rfl)) q0 ⟨⟨uz,zai _,zai _⟩,trivial⟩ (fun m=>ab.aK ab.nil m)
  (fun _=>by kernel_rfl) (fun m x=>by kernel_rfl)
noncomputable def sign (n:Nat) (l:List Int):Option dg:=
 bif ((len l)==0) then
 some (0,())
 else
 Option.bind (l[0]?) fun x0=>
 bif (x0==37) then
 none
 else
 Option.bind (l[0]?) fun x1=>
 Option.bind (word n x1) fun y2=>
 bif y2.1 then
 some (1,())
 else
 Option.bind (Dc (n+2) l ([35,59,47,63,58,64,38,61,43,36,44,95,46,33,126,42,39,40,41,91,93]:List UInt8) 21 0) fun y9=>
 some (y9.1.1,())
noncomputable def KU:bu:=⟨151,[(false,(.aJ am))],[(false,am)],2,fun n x=>sign n x.1⟩
theorem SS (n:Nat):aI Tryz.prog hint aG KU n:=
 aI.of (hk:=fun β=>(an.mk [KC] [vO]).hk β) (sh:=aG) (fun m _=>ab.aK ((ab.nil.fn Ul).loop IC q0) m) (fun x=>by kernel_rfl)
noncomputable def oY:Tm:=⟨[(3,.one (.all 64 3 am .ex))],[],64,65,1000⟩
noncomputable def KH:Tm:=⟨[(3,.one (.all 64 3 am .ex)),(7,.one (.aC .byte)),(8,ac),(9,ac)],[],64,65,1000⟩
noncomputable def P3:Nat->bv->d7->Int->Int->Option (g6×Unit)
 |0,_,_,_,_=>none
 |n+1,t3,t7,t8,t9=>
 bif (aR t9 t8) then
 bif (aQ 0 t9) then
 Option.bind (t7[(Int.toNat t9)]?) fun x3=>
 bif (room (((List.length t3)+(List.length ((zal (ub x3))::([]:List Int))))*9)) then
 P3 n (t3++((zal (ub x3))::([]:List Int))) t7 t8 (zal (t9+1))
 else none
 else none
 else
 some ((t3,()),())
noncomputable def Ew:aM:=⟨68,3,none,KH,[(.exit 0,oY)],0,fun n x=>P3 n x.1.1 x.1.2.1 x.1.2.2.1 x.1.2.2.2.1,[],[]⟩
theorem uU:oY.ok Tryz.prog hint:=Tm.dq rfl
theorem vF:KH.ok Tryz.prog hint:=Tm.dq rfl
theorem Qp:∀ n,ao Tryz.prog hint aG Ew n:=
 ao.of (hk:=fun β=>(an.mk [] []).hk β) (sh:=aG) (aL.of (by kernel_rfl)) vF ⟨⟨uU,zai _,zai _⟩,trivial⟩ (fun m=>ab.aK ab.nil m)
  (fun _=>by kernel_rfl) (fun m x=>by kernel_rfl)
noncomputable def lH:Tm:=⟨[],[(65,.cells 24 [.aC am] true),(66,.cells 70 [.fix (TV.fn 99 [] [])] true),(67,.cells 3 [be] true),(68,.cells 24 [.aC am] true),(69,.loop 98 Go.LoopState.ready (Option.none) (jy Tryz.prog hint 98) [(2,.one (.fix (TV.ptr 65 0))),(3,.one (.fix (TV.ptr 66 0))),(5,.one (.fix (TV.ptr 67 0)))] (aH Tryz.prog 98 5).1 (aH Tryz.prog 98 5).2.1 (aH Tryz.prog 98 5).2.2)],70,70,2008⟩
noncomputable def xu:Tm:=⟨[(0,.one (.fix (TV.mX 69))),(1,.one (.fix (TV.ptr 68 0))),(3,ac)],[(65,.cells 24 [.aC am] true),(66,.cells 70 [.fix (TV.fn 99 [] [])] true),(67,.cells 3 [be] true),(68,.cells 24 [.aC am] true),(69,.loop 98 Go.LoopState.ready (Option.none) (jy Tryz.prog hint 98) [(2,.one (.fix (TV.ptr 65 0))),(3,.one (.fix (TV.ptr 66 0))),(5,.one (.fix (TV.ptr 67 0)))] (aH Tryz.prog 98 5).1 (aH Tryz.prog 98 5).2.1 (aH Tryz.prog 98 5).2.2)],70,70,2008⟩
noncomputable def Ic:Nat->Int->bv->Int->bv->Option (Unit×(g6×(d9×(dg×(g6×(md×Unit))))))
 |0,_,_,_,_=>none
 |n+1,t3,c65_0,c67_0,c68_0=>
 bif ((aQ 0 t3) &&(aQ t3 (len c68_0))) then
 Option.bind (sign (n+1) (List.take ((List.length c68_0) - (Int.toNat t3)) (List.drop (Int.toNat t3) c68_0))) fun y9=>
 bif (y9.1==0) then
 some ((),((c65_0,()),(((),()),((c67_0,()),((c68_0,()),(((),((),((),()))),()))))))
 else
 bif (aQ 0 t3) then
 Option.bind (c65_0[(Int.toNat t3)]?) fun _=>
 Ic n (zal (t3+y9.1)) c65_0 (zal (t3+y9.1)) c68_0
 else none
 else none
noncomputable def zK:aM:=⟨150,1,none,xu,[(.ret,lH)],3,fun n x=>Ic n x.1.2.2.1 x.2.1.1 x.2.2.2.1.1 x.2.2.2.2.1.1,[64],[65,66,68]⟩
theorem v7:lH.ok Tryz.prog hint:=by
 intro p hp;simp only [lH,List.mem_cons,List.not_mem_nil,or_false] at hp;rcases hp with rfl |rfl |rfl |rfl |rfl
 ·trivial
 ·trivial
 ·trivial
 ·trivial
 ·exact jJ.of (by kernel_rfl) (by kernel_rfl)
theorem tg:xu.ok Tryz.prog hint:=by
 intro p hp;simp only [xu,List.mem_cons,List.not_mem_nil,or_false] at hp;rcases hp with rfl |rfl |rfl |rfl |rfl
 ·trivial
 ·trivial
 ·trivial
 ·trivial
 ·exact jJ.of (by kernel_rfl) (by kernel_rfl)
theorem N8:∀ n,ao Tryz.prog hint aG zK n:=
 ao.of (hk:=fun β=>(an.mk [KU] []).hk β) (sh:=aG) (aL.of (by kernel_rfl)) tg ⟨⟨v7,zai _,zai _⟩,trivial⟩ (fun m=>ab.aK (ab.nil.fn SS) m)
  (fun _=>by kernel_rfl) (fun m x=>by kernel_rfl)
noncomputable def valid (n:Nat) (tag:List UInt8):Option d8:=
 Option.bind (P3 (n+5) ([]:List Int) tag (len tag) 0) fun y4=>
 bif (aR 0 (len y4.1.1)) then
 Option.bind (Ic n 0 y4.1.1 0 y4.1.1) fun y11=>
 some ((y11.2.2.2.1.1==(len y4.1.1)),())
 else
 none
noncomputable def FW:bu:=⟨68,[(false,.str)],[(false,.bool)],5,fun n x=>valid n x.1⟩
theorem R6 (n:Nat):aI Tryz.prog hint aG FW n:=
 aI.of (hk:=fun β=>(an.mk [] [zK,Ew]).hk β) (sh:=aG) (fun m _=>ab.aK ((ab.nil.loop Qp vF).loop N8 tg) m) (fun x=>by kernel_rfl)
noncomputable def RC (_n:Nat) (s:List UInt8):Option d8:=
 bif (aQ (len s) 262144) then
 bif (Nat.ble (List.length s) 9223372036854775807) then
 some ((Go.Lib.validD s),())
 else none
 else
 none
noncomputable def AE:bu:=⟨69,[(false,.str)],[(false,.bool)],1,fun n x=>RC n x.1⟩
theorem MP (n:Nat):aI Tryz.prog hint aG AE n:=
 aI.of (hk:=fun β=>(an.mk [] []).hk β) (sh:=aG) (fun m _=>ab.aK ab.nil m) (fun x=>by kernel_rfl)
noncomputable def qS:Tm:=⟨[],[(64,.cells 26 [.aC km,.aC am] true)],65,65,1001⟩
noncomputable def Kg:Tm:=⟨[(2,.one (.fix (TV.ptr 64 0))),(7,.one (.aC am)),(8,ac),(9,ac)],[(64,.cells 26 [.aC km,.aC am] true)],65,65,1001⟩
noncomputable def Av:Nat->bv->Int->Int->rj->bv->Option (Unit×kw)
 |0,_,_,_,_,_=>none
 |n+1,t7,t8,t9,c64_0,c64_1=>
 bif (aR t9 t8) then
 bif (aQ 0 t9) then
 Option.bind (t7[(Int.toNat t9)]?) fun x2=>
 bif (aR x2 0) then
 none
 else
 bif (aQ (len c64_0) x2) then
 none
 else
 Av n t7 t8 (zal (t9+1)) c64_0 c64_1
 else none
 else
 some ((),((c64_0,(c64_1,())),()))
noncomputable def DO:aM:=⟨39,2,none,Kg,[(.exit 0,qS)],0,fun n x=>Av n x.1.2.1 x.1.2.2.1 x.1.2.2.2.1 x.2.1.1 x.2.1.2.1,[],[64]⟩
theorem ux:qS.ok Tryz.prog hint:=Tm.dq rfl
theorem yl:Kg.ok Tryz.prog hint:=Tm.dq rfl
theorem RF:∀ n,ao Tryz.prog hint aG DO n:=
 ao.of (hk:=fun β=>(an.mk [] []).hk β) (sh:=aG) (aL.of (by kernel_rfl)) yl ⟨⟨ux,zai _,zai _⟩,trivial⟩ (fun m=>ab.aK ab.nil m)
  (fun _=>by kernel_rfl) (fun m x=>by kernel_rfl)
noncomputable def Xu (n:Nat) (g:dl) (l:List Int):Option d8:=
 Option.bind (Av (n+1) l (len l) 0 g.1 g.2) fun _=>
 some (true,())
noncomputable def J5:bu:=⟨39,[(true,(.cons (.aJ km) (.aJ am))),(false,(.aJ am))],[(false,.bool)],1,fun n x=>Xu n x.1 x.2.1⟩
theorem RY (n:Nat):aI Tryz.prog hint aG J5 n:=
 aI.of (hk:=fun β=>(an.mk [] [DO]).hk β) (sh:=aG) (fun m _=>ab.aK (ab.nil.loop RF yl) m) (fun x=>by kernel_rfl)
noncomputable def node (n:Nat) (x:(Int×g8)):Option d8:=
 bif (aR 1000 (len x.2.1)) then
 none
 else
 bif (x.2.1==([33]:List UInt8)) then
 none
 else
 Option.bind (valid n x.2.1) fun y0=>
 bif (!y0.1) then
 none
 else
 bif (x.1==1) then
 bif ((len x.2.2.2.1)==0) then
 Option.bind (RC (n+4) x.2.2.1) fun y1=>
 some (y1.1,())
 else
 none
 else
 bif (x.1==2) then
 Option.bind (bif (x.2.2.1==([]:List UInt8)) then
 some (!x.2.2.2.2)
 else
 none) fun b3=>
 some (b3,())
 else
 none
noncomputable def Kr:bu:=⟨40,[(true,km)],[(false,.bool)],6,fun n x=>node n x.1⟩
theorem S7 (n:Nat):aI Tryz.prog hint aG Kr n:=
 aI.of (hk:=fun β=>(an.mk [AE,FW] []).hk β) (sh:=aG) (fun m _=>ab.aK ((ab.nil.fn R6).fn MP) m) (fun x=>by kernel_rfl)
noncomputable def q9:Tm:=⟨[],[(64,.cells 26 [.aC km,.aC am] true)],65,65,1001⟩
noncomputable def Ka:Tm:=⟨[(1,.one (.fix (TV.ptr 64 0))),(3,ac),(24,.one (.aC km)),(25,ac),(26,ac)],[(64,.cells 26 [.aC km,.aC am] true)],65,65,1001⟩
noncomputable def AG:Nat->Int->rj->Int->Int->rj->bv->Option (Unit×kw)
 |0,_,_,_,_,_,_=>none
 |n+1,t3,t24,t25,t26,c64_0,c64_1=>
 bif (aR t26 t25) then
 bif (aQ 0 t26) then
 Option.bind (t24[(Int.toNat t26)]?) fun x7=>
 bif (aR 20000 (zal (t3+(len x7.2.2.2.1)))) then
 none
 else
 Option.bind (node (n+1) (x7.1,(x7.2.1,(x7.2.2.1,(x7.2.2.2.1,x7.2.2.2.2))))) fun y8=>
 bif (!y8.1) then
 none
 else
 Option.bind (Xu (n+6) (c64_0,c64_1) x7.2.2.2.1) fun y9=>
 bif (!y9.1) then
 none
 else
 AG n (zal (t3+(len x7.2.2.2.1))) t24 t25 (zal (t26+1)) c64_0 c64_1
 else none
 else
 some ((),((c64_0,(c64_1,())),()))
noncomputable def DK:aM:=⟨20,5,none,Ka,[(.exit 0,q9)],7,fun n x=>AG n x.1.2.1 x.1.2.2.1 x.1.2.2.2.1 x.1.2.2.2.2.1 x.2.1.1 x.2.1.2.1,[],[64]⟩
theorem uc:q9.ok Tryz.prog hint:=Tm.dq rfl
theorem wh:Ka.ok Tryz.prog hint:=Tm.dq rfl
theorem Rz:∀ n,ao Tryz.prog hint aG DK n:=
 ao.of (hk:=fun β=>(an.mk [J5,Kr] []).hk β) (sh:=aG) (aL.of (by kernel_rfl)) wh ⟨⟨uc,zai _,zai _⟩,trivial⟩ (fun m=>ab.aK ((ab.nil.fn S7).fn RY) m)
  (fun _=>by kernel_rfl) (fun m x=>by kernel_rfl)
noncomputable def right (n:Nat) (g:dl):Option d8:=
 bif (aR 20000 (len g.1)) then
 none
 else
 bif (aR 20000 (len g.2)) then
 none
 else
 Option.bind (Xu (n+5) (g.1,g.2) g.2) fun y0=>
 bif (!y0.1) then
 none
 else
 Option.bind (AG n 0 g.1 (len g.1) 0 g.1 g.2) fun _=>
 some (true,())
noncomputable def wc:bu:=⟨20,[(true,(.cons (.aJ km) (.aJ am)))],[(false,.bool)],7,fun n x=>right n x.1⟩
theorem DJ (n:Nat):aI Tryz.prog hint aG wc n:=
 aI.of (hk:=fun β=>(an.mk [J5] [DK]).hk β) (sh:=aG) (fun m _=>ab.aK ((ab.nil.fn RY).loop Rz wh) m) (fun x=>by kernel_rfl)
set_option maxRecDepth 100000
noncomputable def rf:Tm:=⟨[(3,ac)],[],64,64,1000⟩
noncomputable def Ko:Tm:=⟨[(0,.one (.str)),(3,ac)],[],64,64,1000⟩
noncomputable def Vi:Nat->d7->Int->Option mt
 |0,_,_=>none
 |_+1,t0,t3=>
 Option.bind (bif (aR t3 (len t0)) then
 bif (aQ 0 t3) then
 Option.bind (t0[(Int.toNat t3)]?) fun x9=>
 bif (Nat.ble (UInt8.toNat (48:UInt8)) (UInt8.toNat x9)) then
 bif (aQ 0 t3) then
 Option.bind (t0[(Int.toNat t3)]?) fun x10=>
 some (Nat.ble (UInt8.toNat x10) (UInt8.toNat (57:UInt8)))
 else none
 else
 some false
 else none
 else
 some false) fun b11=>
 bif b11 then
 none
 else
 some ((t3,()),())
noncomputable def Er:aM:=⟨92,2,none,Ko,[(.exit 0,rf)],0,fun n x=>Vi n x.1.1 x.1.2.1,[],[]⟩
theorem uu:rf.ok Tryz.prog hint:=Tm.dq rfl
theorem xf:Ko.ok Tryz.prog hint:=Tm.dq rfl
theorem QS:∀ n,ao Tryz.prog hint aG Er n:=
 ao.of (hk:=fun β=>(an.mk [] []).hk β) (sh:=aG) (aL.of (by kernel_rfl)) xf ⟨⟨uu,zai _,zai _⟩,trivial⟩ (fun m=>ab.aK ab.nil m)
  (fun _=>by kernel_rfl) (fun m x=>by kernel_rfl)
noncomputable def count (n:Nat) (s:List UInt8):Option dg:=
 Option.bind (Vi (n+1) s 0) fun y12=>
 some (y12.1.1,())
noncomputable def Ff:bu:=⟨92,[(false,.str)],[(false,am)],1,fun n x=>count n x.1⟩
theorem Sw (n:Nat):aI Tryz.prog hint aG Ff n:=
 aI.of (hk:=fun β=>(an.mk [] [Er]).hk β) (sh:=aG) (fun m _=>ab.aK (ab.nil.loop QS xf) m) (fun x=>by kernel_rfl)
noncomputable def kZ (_n:Nat) (s:List UInt8) (x:List UInt8):Option d8:=
 bif (aQ (len x) (len s)) then
 bif (aQ (len x) (len s)) then
 some (((List.take ((Int.toNat (len x)) - 0) (List.drop 0 s))==x),())
 else none
 else
 some (false,())
noncomputable def gj:bu:=⟨121,[(false,.str),(false,.str)],[(false,.bool)],0,fun n x=>kZ n x.1 x.2.1⟩
theorem jx (n:Nat):aI Tryz.prog hint aG gj n:=
 aI.of (hk:=fun β=>(an.mk [] []).hk β) (sh:=aG) (fun m _=>ab.aK ab.nil m) (fun x=>by kernel_rfl)
noncomputable def hasPrefix (n:Nat) (s:List UInt8) (x:List UInt8):Option d8:=
 Option.bind (kZ n s x) fun y0=>
 some (y0.1,())
noncomputable def kX:bu:=⟨93,[(false,.str),(false,.str)],[(false,.bool)],1,fun n x=>hasPrefix n x.1 x.2.1⟩
theorem qA (n:Nat):aI Tryz.prog hint aG kX n:=
 aI.of (hk:=fun β=>(an.mk [gj] []).hk β) (sh:=aG) (fun m _=>ab.aK (ab.nil.fn jx) m) (fun x=>by kernel_rfl)
noncomputable def trimPrefix (n:Nat) (s:List UInt8) (x:List UInt8):Option jp:=
 Option.bind (kZ n s x) fun y0=>
 bif y0.1 then
 none
 else
 some (s,())
noncomputable def nM:bu:=⟨95,[(false,.str),(false,.str)],[(false,.str)],2,fun n x=>trimPrefix n x.1 x.2.1⟩
theorem zq (n:Nat):aI Tryz.prog hint aG nM n:=
 aI.of (hk:=fun β=>(an.mk [gj] []).hk β) (sh:=aG) (fun m _=>ab.aK (ab.nil.fn jx) m) (fun x=>by kernel_rfl)
noncomputable def rR (n:Nat) (s:List UInt8) (x:List UInt8):Option (d7×d8):=
 Option.bind (kZ n s x) fun y0=>
 bif (!y0.1) then
 some (s,false,())
 else
 none
noncomputable def q7:bu:=⟨87,[(false,.str),(false,.str)],[(false,.str),(false,.bool)],2,fun n x=>rR n x.1 x.2.1⟩
theorem BY (n:Nat):aI Tryz.prog hint aG q7 n:=
 aI.of (hk:=fun β=>(an.mk [gj] []).hk β) (sh:=aG) (fun m _=>ab.aK (ab.nil.fn jx) m) (fun x=>by kernel_rfl)
noncomputable def signed (n:Nat) (s:List UInt8):Option (d7×d8):=
 Option.bind (hasPrefix (n+1) s ([45]:List UInt8)) fun y0=>
 bif y0.1 then
 none
 else
 Option.bind (trimPrefix n s ([43]:List UInt8)) fun y1=>
 some (y1.1,false,())
noncomputable def mN:bu:=⟨88,[(false,.str)],[(false,.str),(false,.bool)],3,fun n x=>signed n x.1⟩
theorem rW (n:Nat):aI Tryz.prog hint aG mN n:=
 aI.of (hk:=fun β=>(an.mk [nM,kX] []).hk β) (sh:=aG) (fun m _=>ab.aK ((ab.nil.fn qA).fn zq) m) (fun x=>by kernel_rfl)
noncomputable def yD:Tm:=⟨[(4,.one (.str)),(5,.one (.bool))],[],64,64,1000⟩
noncomputable def LF:Tm:=⟨[(0,.one (.str)),(1,ac),(6,.one (.fix (TV.raw (Go.Value.slice (Option.none) 0 0)))),(30,.one (.aC .byte)),(31,ac),(32,ac)],[],64,64,1000⟩
noncomputable def U5:Nat->d7->Int->d7->Int->Int->Option ((d7×d8)×Unit)
 |0,_,_,_,_,_=>none
 |n+1,_,t1,t30,t31,t32=>
 bif (aR t32 t31) then
 bif (aQ 0 t32) then
 Option.bind (t30[(Int.toNat t32)]?) fun x10=>
 Option.bind (hex (n+1) (zal (ub x10))) fun y11=>
 Option.bind (bif (aR y11.1 0) then
 none
 else
 some (aQ t1 y11.1)) fun b13=>
 bif b13 then
 some ((([]:List UInt8),(false,())),())
 else
 none
 else none
 else
 none
noncomputable def EH:aM:=⟨89,5,none,LF,[(.ret,yD)],2,fun n x=>U5 n x.1.1 x.1.2.1 x.1.2.2.2.1 x.1.2.2.2.2.1 x.1.2.2.2.2.2.1,[],[]⟩
theorem zo:yD.ok Tryz.prog hint:=Tm.dq rfl
theorem yA:LF.ok Tryz.prog hint:=Tm.dq rfl
theorem SD:∀ n,ao Tryz.prog hint aG EH n:=
 ao.of (hk:=fun β=>(an.mk [QW] []).hk β) (sh:=aG) (aL.of (by kernel_rfl)) yA ⟨⟨zo,zai _,zai _⟩,trivial⟩ (fun m=>ab.aK (ab.nil.fn VU) m)
  (fun _=>by kernel_rfl) (fun m x=>by kernel_rfl)
noncomputable def plain (n:Nat) (s:List UInt8) (base:Int):Option (d7×d8):=
 Option.bind (bif (s==([]:List UInt8)) then
 some true
 else
 bif (aR 5000 (len s)) then
 some true
 else
 bif (base !=8) then
 bif (base !=10) then
 none
 else
 some false
 else
 some false) fun b1=>
 bif b1 then
 some (([]:List UInt8),false,())
 else
 Option.bind (U5 n s base s (len s) 0) fun y14=>
 some (y14.1.1,y14.1.2.1,())
noncomputable def D6:bu:=⟨89,[(false,.str),(false,am)],[(false,.str),(false,.bool)],2,fun n x=>plain n x.1 x.2.1⟩
theorem Oy (n:Nat):aI Tryz.prog hint aG D6 n:=
 aI.of (hk:=fun β=>(an.mk [] [EH]).hk β) (sh:=aG) (fun m _=>ab.aK (ab.nil.loop SD yA) m) (fun x=>by kernel_rfl)
noncomputable def int (n:Nat) (s:List UInt8):Option ((Bool×lc)×d8):=
 Option.bind (rR (n+1) s ([48,111]:List UInt8)) fun y0=>
 bif y0.2.1 then
 none
 else
 Option.bind (rR (n+1) s ([48,120]:List UInt8)) fun y1=>
 bif y1.2.1 then
 none
 else
 Option.bind (signed n s) fun y2=>
 Option.bind (plain (n+1) y2.1 10) fun y3=>
 bif (!y3.2.1) then
 some ((false,(([]:List UInt8),(0,0))),false,())
 else
 none
noncomputable def Ru:bu:=⟨62,[(false,.str)],[(true,(.cons .bool (.cons .str (.cons am am)))),(false,.bool)],4,fun n x=>int n x.1⟩
theorem V4 (n:Nat):aI Tryz.prog hint aG Ru n:=
 aI.of (hk:=fun β=>(an.mk [D6,mN,q7] []).hk β) (sh:=aG) (fun m _=>ab.aK (((ab.nil.fn BY).fn rW).fn Oy) m) (fun x=>by kernel_rfl)
set_option maxRecDepth 100000
noncomputable def exponent (_n:Nat) (s:List UInt8):Option (Int×d8):=
 bif (s==([]:List UInt8)) then
 some (0,true,())
 else
 Option.bind (Option.bind (s[0]?) fun x1=>
 bif (x1 !=(101:UInt8)) then
 Option.bind (s[0]?) fun x2=>
 some (x2 !=(69:UInt8))
 else
 none) fun b3=>
 bif b3 then
 some (0,false,())
 else
 none
noncomputable def td:bu:=⟨94,[(false,.str)],[(false,am),(false,.bool)],0,fun n x=>exponent n x.1⟩
theorem DL (n:Nat):aI Tryz.prog hint aG td n:=
 aI.of (hk:=fun β=>(an.mk [] []).hk β) (sh:=aG) (fun m _=>ab.aK ab.nil m) (fun x=>by kernel_rfl)
noncomputable def named (n:Nat) (s:List UInt8):Option ((Bool×lc)×d8):=
 bif (s==([46,110,97,110]:List UInt8)) then
 none
 else
 bif (s==([46,78,97,78]:List UInt8)) then
 none
 else
 bif (s==([46,78,65,78]:List UInt8)) then
 none
 else
 Option.bind (signed n s) fun y0=>
 bif (y0.1==([46,105,110,102]:List UInt8)) then
 none
 else
 bif (y0.1==([46,73,110,102]:List UInt8)) then
 none
 else
 bif (y0.1==([46,73,78,70]:List UInt8)) then
 none
 else
 some ((false,(([]:List UInt8),(0,0))),false,())
noncomputable def Hk:bu:=⟨91,[(false,.str)],[(true,(.cons .bool (.cons .str (.cons am am)))),(false,.bool)],4,fun n x=>named n x.1⟩
theorem QL (n:Nat):aI Tryz.prog hint aG Hk n:=
 aI.of (hk:=fun β=>(an.mk [mN] []).hk β) (sh:=aG) (fun m _=>ab.aK (ab.nil.fn rW) m) (fun x=>by kernel_rfl)
noncomputable def float (n:Nat) (s:List UInt8):Option ((Bool×lc)×d8):=
 Option.bind (named n s) fun y0=>
 bif y0.2.1 then
 none
 else
 Option.bind (signed (n+1) s) fun y1=>
 Option.bind (count (n+3) y1.1) fun y2=>
 bif ((aQ 0 y2.1) &&(aQ y2.1 (len y1.1))) then
 bif ((aQ 0 y2.1) &&(aQ y2.1 (len y1.1))) then
 Option.bind (hasPrefix (n+3) (List.take ((List.length y1.1) - (Int.toNat y2.1)) (List.drop (Int.toNat y2.1) y1.1)) ([46]:List UInt8)) fun y3=>
 bif y3.1 then
 none
 else
 Option.bind (exponent (n+4) (List.take ((List.length y1.1) - (Int.toNat y2.1)) (List.drop (Int.toNat y2.1) y1.1))) fun y4=>
 Option.bind (bif (!y4.2.1) then
 some true
 else
 bif ((List.take ((Int.toNat y2.1) - 0) (List.drop 0 y1.1))==([]:List UInt8)) then
 some true
 else
 none) fun b6=>
 bif b6 then
 some ((false,(([]:List UInt8),(0,0))),false,())
 else
 none
 else none
 else none
noncomputable def EA:bu:=⟨63,[(false,.str)],[(true,(.cons .bool (.cons .str (.cons am am)))),(false,.bool)],5,fun n x=>float n x.1⟩
theorem RW (n:Nat):aI Tryz.prog hint aG EA n:=
 aI.of (hk:=fun β=>(an.mk [td,kX,Ff,mN,Hk] []).hk β) (sh:=aG) (fun m _=>ab.aK (((((ab.nil.fn QL).fn rW).fn Sw).fn qA).fn DL) m) (fun x=>by kernel_rfl)
set_option maxRecDepth 100000
noncomputable def OB (_n:Nat) (s:List UInt8):Option d8:=
 Option.bind (bif (s==([]:List UInt8)) then
 some true
 else
 bif (s==([126]:List UInt8)) then
 some true
 else
 bif (s==([110,117,108,108]:List UInt8)) then
 some true
 else
 bif (s==([78,117,108,108]:List UInt8)) then
 some true
 else
 some (s==([78,85,76,76]:List UInt8))) fun b1=>
 some (b1,())
noncomputable def yH:bu:=⟨64,[(false,.str)],[(false,.bool)],0,fun n x=>OB n x.1⟩
theorem DU (n:Nat):aI Tryz.prog hint aG yH n:=
 aI.of (hk:=fun β=>(an.mk [] []).hk β) (sh:=aG) (fun m _=>ab.aK ab.nil m) (fun x=>by kernel_rfl)
noncomputable def Sb (_n:Nat) (s:List UInt8):Option (Bool×d8):=
 bif (s==([116,114,117,101]:List UInt8)) then
 none
 else
 bif (s==([84,114,117,101]:List UInt8)) then
 none
 else
 bif (s==([84,82,85,69]:List UInt8)) then
 none
 else
 bif (s==([102,97,108,115,101]:List UInt8)) then
 none
 else
 bif (s==([70,97,108,115,101]:List UInt8)) then
 none
 else
 bif (s==([70,65,76,83,69]:List UInt8)) then
 none
 else
 some (false,false,())
noncomputable def Bq:bu:=⟨61,[(false,.str)],[(false,.bool),(false,.bool)],0,fun n x=>Sb n x.1⟩
theorem NY (n:Nat):aI Tryz.prog hint aG Bq n:=
 aI.of (hk:=fun β=>(an.mk [] []).hk β) (sh:=aG) (fun m _=>ab.aK ab.nil m) (fun x=>by kernel_rfl)
noncomputable def core (n:Nat) (s:List UInt8):Option jp:=
 Option.bind (Sb (n+5) s) fun y0=>
 Option.bind (int (n+1) s) fun y1=>
 Option.bind (float n s) fun y2=>
 Option.bind (OB (n+5) s) fun y3=>
 bif y3.1 then
 some (([110,117,108,108]:List UInt8),())
 else
 bif y0.2.1 then
 none
 else
 bif y1.2.1 then
 none
 else
 bif y2.2.1 then
 none
 else
 some (([115,116,114]:List UInt8),())
noncomputable def LP:bu:=⟨37,[(false,.str)],[(false,.str)],6,fun n x=>core n x.1⟩
theorem Tv (n:Nat):aI Tryz.prog hint aG LP n:=
 aI.of (hk:=fun β=>(an.mk [yH,EA,Ru,Bq] []).hk β) (sh:=aG) (fun m _=>ab.aK ((((ab.nil.fn NY).fn V4).fn RW).fn DU) m) (fun x=>by kernel_rfl)
noncomputable def lB (n:Nat) (tag:List UInt8) (s:List UInt8):Option ((Int×(Bool×((Bool×lc)×List UInt8)))×dg):=
 bif (tag==([116,97,103,58,121,97,109,108,46,111,114,103,44,50,48,48,50,58,110,117,108,108]:List UInt8)) then
 Option.bind (OB n s) fun y0=>
 bif (!y0.1) then
 none
 else
 some ((1,(false,((false,(([]:List UInt8),(0,0))),([]:List UInt8)))),0,())
 else
 bif (tag==([116,97,103,58,121,97,109,108,46,111,114,103,44,50,48,48,50,58,98,111,111,108]:List UInt8)) then
 none
 else
 bif (tag==([116,97,103,58,121,97,109,108,46,111,114,103,44,50,48,48,50,58,105,110,116]:List UInt8)) then
 none
 else
 bif (tag==([116,97,103,58,121,97,109,108,46,111,114,103,44,50,48,48,50,58,102,108,111,97,116]:List UInt8)) then
 none
 else
 some ((5,(false,((false,(([]:List UInt8),(0,0))),s))),0,())
noncomputable def sy:bu:=⟨41,[(false,.str),(false,.str)],[(true,(.cons am (.cons .bool (.cons (.cons .bool (.cons .str (.cons am am))) .str)))),(false,am)],1,fun n x=>lB n x.1 x.2.1⟩
theorem BD (n:Nat):aI Tryz.prog hint aG sy n:=
 aI.of (hk:=fun β=>(an.mk [yH] []).hk β) (sh:=aG) (fun m _=>ab.aK (ab.nil.fn DU) m) (fun x=>by kernel_rfl)
noncomputable def Xo (_n:Nat) (k:Int):Option jp:=
 bif (k==1) then
 none
 else
 bif (k==2) then
 some (([116,97,103,58,121,97,109,108,46,111,114,103,44,50,48,48,50,58,115,101,113]:List UInt8),())
 else
 none
noncomputable def Ll:bu:=⟨36,[(false,am)],[(false,.str)],0,fun n x=>Xo n x.1⟩
theorem S9 (n:Nat):aI Tryz.prog hint aG Ll n:=
 aI.of (hk:=fun β=>(an.mk [] []).hk β) (sh:=aG) (fun m _=>ab.aK ab.nil m) (fun x=>by kernel_rfl)
noncomputable def iC (n:Nat) (kind:Int) (tag:List UInt8) (text:List UInt8) (plain:Bool) (sch:Int):Option jp:=
 Option.bind (bif (!(tag==([]:List UInt8))) then
 none
 else
 some false) fun b1=>
 bif b1 then
 none
 else
 Option.bind (bif (tag==([33]:List UInt8)) then
 none
 else
 bif (kind !=1) then
 some true
 else
 some (!plain)) fun b3=>
 bif b3 then
 Option.bind (Xo (n+6) kind) fun y4=>
 some (y4.1,())
 else
 bif (sch==2) then
 Option.bind (core n text) fun y5=>
 bif (room ((List.length ([116,97,103,58,121,97,109,108,46,111,114,103,44,50,48,48,50,58]:List UInt8))+(List.length y5.1))) then
 some ((([116,97,103,58,121,97,109,108,46,111,114,103,44,50,48,48,50,58]:List UInt8)++y5.1),())
 else none
 else
 none
noncomputable def tD:bu:=⟨19,[(false,am),(false,.str),(false,.str),(false,.bool),(false,am)],[(false,.str)],7,fun n x=>iC n x.1 x.2.1 x.2.2.1 x.2.2.2.1 x.2.2.2.2.1⟩
theorem El (n:Nat):aI Tryz.prog hint aG tD n:=
 aI.of (hk:=fun β=>(an.mk [LP,Ll] []).hk β) (sh:=aG) (fun m _=>ab.aK ((ab.nil.fn S9).fn Tv) m) (fun x=>by kernel_rfl)
noncomputable def qY:Tm:=⟨[(2,.one (.fix (TV.ptr 64 0))),(4,.one (.fix (TV.ptr 65 0)))],[(64,.cells 26 [.fix (TV.all 67),.aC am] true),(65,.cells 26 [.fix (TV.raw (Go.Value.slice (Option.none) 0 0)),.fix (TV.raw (Go.Value.slice (Option.none) 0 0))] true),(67,.arr 38 km true false .no)],68,68,1005⟩
noncomputable def Kd:Tm:=⟨[(1,ac),(2,.one (.fix (TV.ptr 64 0))),(4,.one (.fix (TV.ptr 65 0))),(12,.one (.fix (TV.all 67))),(13,ac),(14,ac)],[(64,.cells 26 [.fix (TV.all 67),.aC am] true),(65,.cells 26 [.fix (TV.raw (Go.Value.slice (Option.none) 0 0)),.fix (TV.raw (Go.Value.slice (Option.none) 0 0))] true),(67,.arr 38 km true false .no)],68,68,1005⟩
noncomputable def Aj:Nat->Int->Int->Int->bv->rj->Option (ip×((Unit×g6)×(ip×(rj×Unit))))
 |0,_,_,_,_,_=>none
 |n+1,t1,t13,t14,c64_1,a67=>
 bif (aR t14 t13) then
 bif ((aQ 0 t14) &&(aR t14 (len a67))) then
 Option.bind (a67[(Int.toNat t14)]?) fun x6=>
 Option.bind (iC (n+1) x6.1 x6.2.1 x6.2.2.1 x6.2.2.2.2 t1) fun y7=>
 bif ((aQ 0 t14) &&(aR t14 (len a67))) then
 Option.bind (a67[(Int.toNat t14)]?) fun x8=>
 Aj n t1 t13 (zal (t14+1)) c64_1 (List.set a67 (Int.toNat t14) (x8.1,(y7.1,(x8.2.2.1,(x8.2.2.2.1,x8.2.2.2.2)))))
 else none
 else none
 else
 some (((),((),())),(((),(c64_1,())),(((),((),())),(a67,()))))
noncomputable def F9:aM:=⟨11,3,none,Kd,[(.exit 0,qY)],8,fun n x=>Aj n x.1.1 x.1.2.2.2.2.1 x.1.2.2.2.2.2.1 x.2.1.2.1 x.2.2.2.1,[],[64,65]⟩
theorem uK:qY.ok Tryz.prog hint:=Tm.dq rfl
theorem yK:Kd.ok Tryz.prog hint:=Tm.dq rfl
theorem Qn:∀ n,ao Tryz.prog hint aG F9 n:=
 ao.of (hk:=fun β=>(an.mk [tD] []).hk β) (sh:=aG) (aL.of (by kernel_rfl)) yK ⟨⟨uK,zai _,zai _⟩,trivial⟩ (fun m=>ab.aK (ab.nil.fn El) m)
  (fun _=>by kernel_rfl) (fun m x=>by kernel_rfl)
noncomputable def resolved (n:Nat) (g:dl) (sch:Int):Option (dl×Unit):=
 bif (!(List.isEmpty g.1)) then
 bif (room ((0+(List.length g.1))*73)) then
 Option.bind (Aj n sch (len ([]++g.1)) 0 g.2 ([]++g.1)) fun y9=>
 some ((y9.2.2.2.1,g.2),())
 else none
 else none
noncomputable def tH:bu:=⟨11,[(true,(.cons (.aJ km) (.aJ am))),(false,am)],[(true,(.cons (.aJ km) (.aJ am)))],8,fun n x=>resolved n x.1 x.2.1⟩
theorem EK (n:Nat):aI Tryz.prog hint aG tH n:=
 aI.of (hk:=fun β=>(an.mk [] [F9]).hk β) (sh:=aG) (fun m _=>ab.aK (ab.nil.loop Qn yK) m) (fun x=>by kernel_rfl)
noncomputable def p7:Tm:=⟨[],[],65,65,1001⟩
noncomputable def LV:Tm:=⟨[(8,.one (.aC km)),(9,ac),(10,ac)],[],65,65,1001⟩
noncomputable def vC:Nat->rj->Int->Int->Option d9
 |0,_,_,_=>none
 |n+1,t8,t9,t10=>
 bif (aR t10 t9) then
 bif (aQ 0 t10) then
 Option.bind (t8[(Int.toNat t10)]?) fun x4=>
 bif (x4.1 !=1) then
 vC n t8 t9 (zal (t10+1))
 else
 Option.bind (lB (n+1) x4.2.1 x4.2.2.1) fun y5=>
 bif (y5.2.1 !=0) then
 none
 else
 vC n t8 t9 (zal (t10+1))
 else none
 else
 some ((),())
noncomputable def FF:aM:=⟨21,2,none,LV,[(.exit 0,p7)],2,fun n x=>vC n x.1.1 x.1.2.1 x.1.2.2.1,[64],[]⟩
theorem uJ:p7.ok Tryz.prog hint:=Tm.dq rfl
theorem vz:LV.ok Tryz.prog hint:=Tm.dq rfl
theorem Pw:∀ n,ao Tryz.prog hint aG FF n:=
 ao.of (hk:=fun β=>(an.mk [sy] []).hk β) (sh:=aG) (aL.of (by kernel_rfl)) vz ⟨⟨uJ,zai _,zai _⟩,trivial⟩ (fun m=>ab.aK (ab.nil.fn BD) m)
  (fun _=>by kernel_rfl) (fun m x=>by kernel_rfl)
noncomputable def uY (n:Nat) (g:dl):Option dg:=
 Option.bind (vC n g.1 (len g.1) 0) fun _=>
 some (0,())
noncomputable def wB:bu:=⟨21,[(true,(.cons (.aJ km) (.aJ am)))],[(false,am)],2,fun n x=>uY n x.1⟩
theorem H7 (n:Nat):aI Tryz.prog hint aG wB n:=
 aI.of (hk:=fun β=>(an.mk [] [FF]).hk β) (sh:=aG) (fun m _=>ab.aK (ab.nil.loop Pw vz) m) (fun x=>by kernel_rfl)
set_option maxRecDepth 100000
noncomputable def own (n:Nat) (x:(Int×g8)):Option jp:=
 bif (Co x.1) then
 bif (room ((List.length (Go.Lib.itoa x.1))+(List.length ([32]:List UInt8)))) then
 bif (Co (len x.2.2.2.1)) then
 bif (room ((List.length ((Go.Lib.itoa x.1)++([32]:List UInt8)))+(List.length (Go.Lib.itoa (len x.2.2.2.1))))) then
 bif (room ((List.length (((Go.Lib.itoa x.1)++([32]:List UInt8))++(Go.Lib.itoa (len x.2.2.2.1))))+(List.length ([32]:List UInt8)))) then
 bif (room ((List.length ((((Go.Lib.itoa x.1)++([32]:List UInt8))++(Go.Lib.itoa (len x.2.2.2.1)))++([32]:List UInt8)))+(List.length x.2.1))) then
 bif (room ((List.length (((((Go.Lib.itoa x.1)++([32]:List UInt8))++(Go.Lib.itoa (len x.2.2.2.1)))++([32]:List UInt8))++x.2.1))+(List.length ([10]:List UInt8)))) then
 bif (x.1 !=1) then
 some (((((((Go.Lib.itoa x.1)++([32]:List UInt8))++(Go.Lib.itoa (len x.2.2.2.1)))++([32]:List UInt8))++x.2.1)++([10]:List UInt8)),())
 else
 Option.bind (lB n x.2.1 x.2.2.1) fun y0=>
 bif (y0.2.1 !=0) then
 none
 else
 Option.bind (bif (y0.1.1==3) then
 none
 else
 some (y0.1.1==4)) fun b2=>
 bif b2 then
 none
 else
 bif (y0.1.1==2) then
 none
 else
 bif (room ((List.length ((((((Go.Lib.itoa x.1)++([32]:List UInt8))++(Go.Lib.itoa (len x.2.2.2.1)))++([32]:List UInt8))++x.2.1)++([10]:List UInt8)))+(List.length y0.1.2.2.2))) then
 some ((((((((Go.Lib.itoa x.1)++([32]:List UInt8))++(Go.Lib.itoa (len x.2.2.2.1)))++([32]:List UInt8))++x.2.1)++([10]:List UInt8))++y0.1.2.2.2),())
 else none
 else none
 else none
 else none
 else none
 else none
 else none
 else none
noncomputable def Pg:bu:=⟨71,[(true,km)],[(false,.str)],2,fun n x=>own n x.1⟩
theorem V0 (n:Nat):aI Tryz.prog hint aG Pg n:=
 aI.of (hk:=fun β=>(an.mk [sy] []).hk β) (sh:=aG) (fun m _=>ab.aK (ab.nil.fn BD) m) (fun x=>by kernel_rfl)
noncomputable def qi:Tm:=⟨[(1,.one (.fix (TV.ptr 64 0))),(3,.one (.all 67 3 am .no)),(4,.one (.all 68 9 .str .no))],[(64,.cells 26 [.aC km,.aC am] true)],67,69,1003⟩
noncomputable def Kh:Tm:=⟨[(1,.one (.fix (TV.ptr 64 0))),(3,.one (.all 67 3 am .no)),(4,.one (.all 68 9 .str .no)),(26,.one (.aC km)),(27,ac),(28,ac)],[(64,.cells 26 [.aC km,.aC am] true)],67,69,1003⟩
noncomputable def yy:Nat->bv->(List d7)->rj->Int->Int->rj->bv->Option ((Unit×(bv×((List d7)×Unit)))×kw)
 |0,_,_,_,_,_,_,_=>none
 |n+1,t3,t4,t26,t27,t28,c64_0,c64_1=>
 bif (aR t28 t27) then
 bif (aQ 0 t28) then
 Option.bind (t26[(Int.toNat t28)]?) fun x6=>
 Option.bind (own (n+1) (x6.1,(x6.2.1,(x6.2.2.1,(x6.2.2.2.1,x6.2.2.2.2))))) fun y7=>
 bif ((aQ 0 t28) &&(aR t28 (len t4))) then
 Option.bind (t4[(Int.toNat t28)]?) fun _=>
 yy n t3 (List.set t4 (Int.toNat t28) y7.1) t26 t27 (zal (t28+1)) c64_0 c64_1
 else none
 else none
 else
 some (((),(t3,(t4,()))),((c64_0,(c64_1,())),()))
noncomputable def DM:aM:=⟨42,4,none,Kh,[(.exit 0,qi)],3,fun n x=>yy n x.1.2.1 x.1.2.2.1 x.1.2.2.2.1 x.1.2.2.2.2.1 x.1.2.2.2.2.2.1 x.2.1.1 x.2.1.2.1,[],[64]⟩
theorem uL:qi.ok Tryz.prog hint:=Tm.dq rfl
theorem ye:Kh.ok Tryz.prog hint:=Tm.dq rfl
theorem PO:∀ n,ao Tryz.prog hint aG DM n:=
 ao.of (hk:=fun β=>(an.mk [Pg] []).hk β) (sh:=aG) (aL.of (by kernel_rfl)) ye ⟨⟨uL,zai _,zai _⟩,trivial⟩ (fun m=>ab.aK (ab.nil.fn V0) m)
  (fun _=>by kernel_rfl) (fun m x=>by kernel_rfl)
noncomputable def nO:Tm:=⟨[(1,.one (.fix (TV.ptr 64 0))),(3,.one (.all 72 3 am .no)),(4,.one (.fix (TV.all 70))),(39,ac)],[(64,.cells 26 [.aC km,.aC am] true),(70,.arr 9 .str true false .no),(71,.map 9 false false .str am false)],72,73,3006⟩
noncomputable def FX:Tm:=⟨[(1,.one (.fix (TV.ptr 64 0))),(3,.one (.all 72 3 am .no)),(4,.one (.fix (TV.all 70))),(7,.one (.fix (TV.mp 71))),(39,ac),(42,.one (.fix (TV.all 70))),(43,ac),(44,ac)],[(64,.cells 26 [.aC km,.aC am] true),(70,.arr 9 .str true false .no),(71,.map 9 false false .str am false)],72,73,3006⟩
noncomputable def kA:Nat->bv->Int->Int->Int->rj->bv->(List d7)->(List (List UInt8×Int))->Option ((Unit×(bv×(Unit×dg)))×((rj×g6)×((List d7)×((List (List UInt8×Int))×Unit))))
 |0,_,_,_,_,_,_,_,_=>none
 |n+1,t3,t39,t43,t44,c64_0,c64_1,a70,m71=>
 bif (aR t44 t43) then
 bif ((aQ 0 t44) &&(aR t44 (len a70))) then
 Option.bind (a70[(Int.toNat t44)]?) fun x16=>
 bif (!(FJ Sh.str m71 x16)) then
 bif ((aQ 0 t44) &&(aR t44 (len t3))) then
 Option.bind (t3[(Int.toNat t44)]?) fun _=>
 kA n (List.set t3 (Int.toNat t44) (nV Sh.str (iW Sh.str m71 x16 (len m71)) x16 0)) t39 t43 (zal (t44+1)) c64_0 c64_1 a70 (iW Sh.str m71 x16 (len m71))
 else none
 else
 bif ((aQ 0 t44) &&(aR t44 (len t3))) then
 Option.bind (t3[(Int.toNat t44)]?) fun _=>
 kA n (List.set t3 (Int.toNat t44) (nV Sh.str m71 x16 0)) t39 t43 (zal (t44+1)) c64_0 c64_1 a70 m71
 else none
 else none
 else
 some (((),(t3,((),(t39,())))),((c64_0,(c64_1,())),(a70,(m71,()))))
noncomputable def BJ:aM:=⟨42,12,none,FX,[(.exit 4,nO)],0,fun n x=>kA n x.1.2.1 x.1.2.2.2.2.1 x.1.2.2.2.2.2.2.1 x.1.2.2.2.2.2.2.2.1 x.2.1.1 x.2.1.2.1 x.2.2.1 x.2.2.2.1,[],[64]⟩
theorem rK:nO.ok Tryz.prog hint:=Tm.dq rfl
theorem tJ:FX.ok Tryz.prog hint:=Tm.dq rfl
theorem Nv:∀ n,ao Tryz.prog hint aG BJ n:=
 ao.of (hk:=fun β=>(an.mk [] []).hk β) (sh:=aG) (aL.of (by kernel_rfl)) tJ ⟨⟨rK,zai _,zai _⟩,trivial⟩ (fun m=>ab.aK ab.nil m)
  (fun _=>by kernel_rfl) (fun m x=>by kernel_rfl)
noncomputable def nu:Tm:=⟨[(1,.one (.fix (TV.ptr 64 0))),(3,.one (.all 78 3 am .no)),(4,.one (.all 79 9 .str .no)),(12,ac),(14,.one (.fix (TV.ptr 76 0))),(39,ac),(69,.one (.aC km)),(70,ac),(71,ac)],[(64,.cells 26 [.aC km,.aC am] true),(76,.cells 132 [.fix (TV.ptr 76 0),.all 80 5 .byte .ex] true)],78,81,5014⟩
noncomputable def Hx:Tm:=⟨[(1,.one (.fix (TV.ptr 64 0))),(3,.one (.all 78 3 am .no)),(4,.one (.all 79 9 .str .no)),(12,ac),(14,.one (.fix (TV.ptr 76 0))),(39,ac),(69,.one (.aC km)),(70,ac),(71,ac),(83,.one (.aC am)),(84,ac),(85,ac)],[(64,.cells 26 [.aC km,.aC am] true),(76,.cells 132 [.fix (TV.ptr 76 0),.all 80 5 .byte .ex] true)],78,81,5014⟩
noncomputable def sF:Nat->bv->(List d7)->Int->Int->rj->Int->Int->bv->Int->Int->rj->bv->d7->Option ((Unit×(bv×((List d7)×(Int×(Unit×(Int×(rj×g7)))))))×((rj×g6)×((Unit×jp)×Unit)))
 |0,_,_,_,_,_,_,_,_,_,_,_,_,_=>none
 |n+1,t3,t4,t12,t39,t69,t70,t71,t83,t84,t85,c64_0,c64_1,c76_1=>
 bif (aR t85 t84) then
 bif (aQ 0 t85) then
 Option.bind (t83[(Int.toNat t85)]?) fun x26=>
 bif (room (((List.length c76_1)+(List.length ((32:UInt8)::([]:List UInt8))))*2)) then
 bif ((aQ 0 x26) &&(aR x26 (len t3))) then
 Option.bind (t3[(Int.toNat x26)]?) fun x27=>
 bif (Co x27) then
 bif (room (((List.length (c76_1++((32:UInt8)::([]:List UInt8))))+(List.length (Go.Lib.itoa x27)))*2)) then
 sF n t3 t4 t12 t39 t69 t70 t71 t83 t84 (zal (t85+1)) c64_0 c64_1 ((c76_1++((32:UInt8)::([]:List UInt8)))++(Go.Lib.itoa x27))
 else none
 else none
 else none
 else none
 else none
 else
 some (((),(t3,(t4,(t12,((),(t39,(t69,(t70,(t71,()))))))))),((c64_0,(c64_1,())),(((),(c76_1,())),())))
noncomputable def Bn:aM:=⟨42,25,none,Hx,[(.exit 8,nu)],2,fun n x=>sF n x.1.2.1 x.1.2.2.1 x.1.2.2.2.1 x.1.2.2.2.2.2.1 x.1.2.2.2.2.2.2.1 x.1.2.2.2.2.2.2.2.1 x.1.2.2.2.2.2.2.2.2.1 x.1.2.2.2.2.2.2.2.2.2.1 x.1.2.2.2.2.2.2.2.2.2.2.1 x.1.2.2.2.2.2.2.2.2.2.2.2.1 x.2.1.1 x.2.1.2.1 x.2.2.1.2.1,[75],[64]⟩
theorem rV:nu.ok Tryz.prog hint:=Tm.dq rfl
theorem tt:Hx.ok Tryz.prog hint:=Tm.dq rfl
theorem Nn:∀ n,ao Tryz.prog hint aG Bn n:=
 ao.of (hk:=fun β=>(an.mk [] []).hk β) (sh:=aG) (aL.of (by kernel_rfl)) tt ⟨⟨rV,zai _,zai _⟩,trivial⟩ (fun m=>ab.aK ab.nil m)
  (fun _=>by kernel_rfl) (fun m x=>by kernel_rfl)
noncomputable def nz:Tm:=⟨[(1,.one (.fix (TV.ptr 64 0))),(3,.one (.all 73 3 am .no)),(4,.one (.all 74 9 .str .no)),(39,ac)],[(64,.cells 26 [.aC km,.aC am] true)],73,75,4007⟩
noncomputable def Eg:Tm:=⟨[(1,.one (.fix (TV.ptr 64 0))),(3,.one (.all 73 3 am .no)),(4,.one (.all 74 9 .str .no)),(39,ac),(69,.one (.aC km)),(70,ac),(71,ac)],[(64,.cells 26 [.aC km,.aC am] true)],73,75,4007⟩
noncomputable def lN:Nat->bv->(List d7)->Int->rj->Int->Int->rj->bv->Option ((Unit×(bv×((List d7)×dg)))×kw)
 |0,_,_,_,_,_,_,_,_=>none
 |n+1,t3,t4,t39,t69,t70,t71,c64_0,c64_1=>
 bif (aR t71 t70) then
 bif (aQ 0 t71) then
 Option.bind (t69[(Int.toNat t71)]?) fun x36=>
 bif ((aQ 0 t71) &&(aR t71 (len t3))) then
 Option.bind (t3[(Int.toNat t71)]?) fun x37=>
 bif (Co x37) then
 bif (room ((List.length (Go.Lib.itoa x37))*2)) then
 Option.bind (sF (n+1) t3 t4 t71 t39 t69 t70 t71 x36.2.2.2.1 (len x36.2.2.2.1) 0 c64_0 c64_1 (Go.Lib.itoa x37)) fun y38=>
 bif (List.isEmpty y38.2.2.1.2.1) then
 bif ((len y38.2.2.1.2.1)==0) then
 bif ((aQ 0 y38.1.2.2.2.1) &&(aR y38.1.2.2.2.1 (len y38.1.2.2.1))) then
 Option.bind (y38.1.2.2.1[(Int.toNat y38.1.2.2.2.1)]?) fun _=>
 lN n y38.1.2.1 (List.set y38.1.2.2.1 (Int.toNat y38.1.2.2.2.1) ([]:List UInt8)) y38.1.2.2.2.2.2.1 y38.1.2.2.2.2.2.2.1 y38.1.2.2.2.2.2.2.2.1 (zal (y38.1.2.2.2.2.2.2.2.2.1+1)) c64_0 c64_1
 else none
 else none
 else
 bif ((aQ (len y38.2.2.1.2.1) (len y38.2.2.1.2.1)) &&(aQ (len y38.2.2.1.2.1) 1099511627776)) then
 bif ((aQ 0 y38.1.2.2.2.1) &&(aR y38.1.2.2.2.1 (len y38.1.2.2.1))) then
 Option.bind (y38.1.2.2.1[(Int.toNat y38.1.2.2.2.1)]?) fun _=>
 lN n y38.1.2.1 (List.set y38.1.2.2.1 (Int.toNat y38.1.2.2.2.1) (List.take (Int.toNat (len y38.2.2.1.2.1)) y38.2.2.1.2.1)) y38.1.2.2.2.2.2.1 y38.1.2.2.2.2.2.2.1 y38.1.2.2.2.2.2.2.2.1 (zal (y38.1.2.2.2.2.2.2.2.2.1+1)) c64_0 c64_1
 else none
 else none
 else none
 else none
 else none
 else none
 else
 some (((),(t3,(t4,(t39,())))),((c64_0,(c64_1,())),()))
noncomputable def Aa:aM:=⟨42,20,none,Eg,[(.exit 6,nz)],2,fun n x=>lN n x.1.2.1 x.1.2.2.1 x.1.2.2.2.1 x.1.2.2.2.2.1 x.1.2.2.2.2.2.1 x.1.2.2.2.2.2.2.1 x.2.1.1 x.2.1.2.1,[71],[64]⟩
theorem rn:nz.ok Tryz.prog hint:=Tm.dq rfl
theorem tP:Eg.ok Tryz.prog hint:=Tm.dq rfl
theorem Mc:∀ n,ao Tryz.prog hint aG Aa n:=
 ao.of (hk:=fun β=>(an.mk [] [Bn]).hk β) (sh:=aG) (aL.of (by kernel_rfl)) tP ⟨⟨rn,zai _,zai _⟩,trivial⟩ (fun m=>ab.aK (ab.nil.loop Nn tt) m)
  (fun _=>by kernel_rfl) (fun m x=>by kernel_rfl)
noncomputable def pk:Tm:=⟨[(3,.one (.all 69 3 am .no))],[(64,.cells 26 [.aC km,.aC am] true)],69,70,2004⟩
noncomputable def Kp:Tm:=⟨[(1,.one (.fix (TV.ptr 64 0))),(3,.one (.all 69 3 am .no)),(4,.one (.all 70 9 .str .no)),(39,ac)],[(64,.cells 26 [.aC km,.aC am] true)],69,71,2004⟩
noncomputable def wa:Nat->bv->(List d7)->Int->rj->bv->Option (g6×kw)
 |0,_,_,_,_,_=>none
 |n+1,t3,t4,t39,c64_0,c64_1=>
 bif (aR t39 4) then
 Option.bind (kA (n+3) t3 t39 (len t4) 0 c64_0 c64_1 t4 []) fun y44=>
 Option.bind (lN (n+1) y44.1.2.1 y44.2.2.1 y44.1.2.2.2.1 c64_0 (len c64_0) 0 c64_0 c64_1) fun y45=>
 wa n y45.1.2.1 y45.1.2.2.1 (zal (y45.1.2.2.2.1+1)) c64_0 c64_1
 else
 some ((t3,()),((c64_0,(c64_1,())),()))
noncomputable def E6:aM:=⟨42,9,none,Kp,[(.exit 2,pk)],2,fun n x=>wa n x.1.2.1 x.1.2.2.1 x.1.2.2.2.1 x.2.1.1 x.2.1.2.1,[],[64]⟩
theorem uH:pk.ok Tryz.prog hint:=Tm.dq rfl
theorem xS:Kp.ok Tryz.prog hint:=Tm.dq rfl
theorem RO:∀ n,ao Tryz.prog hint aG E6 n:=
 ao.of (hk:=fun β=>(an.mk [] [Aa,BJ]).hk β) (sh:=aG) (aL.of (by kernel_rfl)) xS ⟨⟨uH,zai _,zai _⟩,trivial⟩ (fun m=>ab.aK ((ab.nil.loop Nv tJ).loop Mc tP) m)
  (fun _=>by kernel_rfl) (fun m x=>by kernel_rfl)
noncomputable def B0 (n:Nat) (g:dl):Option g6:=
 bif ((aQ (len g.1) (len g.1)) &&(aQ ((len g.1)*9) 1099511627776)) then
 bif ((aQ (len g.1) (len g.1)) &&(aQ ((len g.1)*17) 1099511627776)) then
 Option.bind (yy n (List.replicate (Int.toNat (len g.1)) 0) (List.replicate (Int.toNat (len g.1)) ([]:List UInt8)) g.1 (len g.1) 0 g.1 g.2) fun y9=>
 Option.bind (wa (n+1) y9.1.2.1 y9.1.2.2.1 0 g.1 g.2) fun y46=>
 some (y46.1.1,())
 else none
 else none
noncomputable def Bv:bu:=⟨42,[(true,(.cons (.aJ km) (.aJ am)))],[(false,(.aJ am))],3,fun n x=>B0 n x.1⟩
theorem N4 (n:Nat):aI Tryz.prog hint aG Bv n:=
 aI.of (hk:=fun β=>(an.mk [] [E6,DM]).hk β) (sh:=aG) (fun m _=>ab.aK ((ab.nil.loop PO ye).loop RO xS) m) (fun x=>by kernel_rfl)
noncomputable def oX:Tm:=⟨[],[(64,.cells 26 [.aC km,.aC am] true)],65,65,1001⟩
noncomputable def Kw:Tm:=⟨[(1,.one (.fix (TV.ptr 64 0))),(4,.one (.aC am)),(13,.one (.aC km)),(14,ac),(15,ac)],[(64,.cells 26 [.aC km,.aC am] true)],65,65,1001⟩
noncomputable def zM:Nat->bv->rj->Int->Int->rj->bv->Option (Unit×kw)
 |0,_,_,_,_,_,_=>none
 |n+1,t4,t13,t14,t15,c64_0,c64_1=>
 bif (aR t15 t14) then
 bif (aQ 0 t15) then
 Option.bind (t13[(Int.toNat t15)]?) fun x4=>
 bif (x4.1==3) then
 none
 else
 zM n t4 t13 t14 (zal (t15+1)) c64_0 c64_1
 else none
 else
 some ((),((c64_0,(c64_1,())),()))
noncomputable def Hj:aM:=⟨22,5,none,Kw,[(.exit 0,oX)],0,fun n x=>zM n x.1.2.1 x.1.2.2.1 x.1.2.2.2.1 x.1.2.2.2.2.1 x.2.1.1 x.2.1.2.1,[],[64]⟩
theorem uA:oX.ok Tryz.prog hint:=Tm.dq rfl
theorem yi:Kw.ok Tryz.prog hint:=Tm.dq rfl
theorem Rn:∀ n,ao Tryz.prog hint aG Hj n:=
 ao.of (hk:=fun β=>(an.mk [] []).hk β) (sh:=aG) (aL.of (by kernel_rfl)) yi ⟨⟨uA,zai _,zai _⟩,trivial⟩ (fun m=>ab.aK ab.nil m)
  (fun _=>by kernel_rfl) (fun m x=>by kernel_rfl)
noncomputable def P2 (n:Nat) (g:dl):Option (Int×d8):=
 Option.bind (right n (g.1,g.2)) fun y0=>
 bif (!y0.1) then
 none
 else
 Option.bind (B0 (n+4) (g.1,g.2)) fun y1=>
 Option.bind (zM (n+8) y1.1 g.1 (len g.1) 0 g.1 g.2) fun _=>
 some (0,false,())
noncomputable def Fm:bu:=⟨22,[(true,(.cons (.aJ km) (.aJ am)))],[(false,am),(false,.bool)],8,fun n x=>P2 n x.1⟩
theorem Qz (n:Nat):aI Tryz.prog hint aG Fm n:=
 aI.of (hk:=fun β=>(an.mk [Bv,wc] [Hj]).hk β) (sh:=aG) (fun m _=>ab.aK (((ab.nil.fn DJ).fn N4).loop Rn yi) m) (fun x=>by kernel_rfl)
noncomputable def checked (n:Nat) (g:dl):Option dg:=
 Option.bind (right (n+1) (g.1,g.2)) fun y0=>
 bif (!y0.1) then
 none
 else
 Option.bind (uY (n+6) (g.1,g.2)) fun y1=>
 bif (y1.1 !=0) then
 none
 else
 Option.bind (P2 n (g.1,g.2)) fun y2=>
 bif y2.2.1 then
 none
 else
 some (0,())
noncomputable def vp:bu:=⟨12,[(true,(.cons (.aJ km) (.aJ am)))],[(false,am)],9,fun n x=>checked n x.1⟩
theorem IK (n:Nat):aI Tryz.prog hint aG vp n:=
 aI.of (hk:=fun β=>(an.mk [Fm,wB,wc] []).hk β) (sh:=aG) (fun m _=>ab.aK (((ab.nil.fn DJ).fn H7).fn Qz) m) (fun x=>by kernel_rfl)
set_option maxRecDepth 100000
noncomputable def blank (_n:Nat) (c:Int):Option d8:=
 Option.bind (bif (c==32) then
 some true
 else
 some (c==9)) fun b1=>
 some (b1,())
noncomputable def fL:bu:=⟨109,[(false,am)],[(false,.bool)],0,fun n x=>blank n x.1⟩
theorem gw (n:Nat):aI Tryz.prog hint aG fL n:=
 aI.of (hk:=fun β=>(an.mk [] []).hk β) (sh:=aG) (fun m _=>ab.aK ab.nil m) (fun x=>by kernel_rfl)
noncomputable def nS:Tm:=⟨[],[],64,64,1000⟩
noncomputable def sM:Tm:=⟨[(4,.one (.bool))],[],64,64,1000⟩
noncomputable def Gq:Tm:=⟨[(1,ac),(8,.one (.aC .byte)),(9,ac),(10,ac)],[],64,64,1000⟩
noncomputable def Cd:Nat->Int->d7->Int->Int->Option (d9⊕lw)
 |0,_,_,_,_=>none
 |n+1,t1,t8,t9,t10=>
 bif (aR t10 t9) then
 bif (aQ 0 t10) then
 Option.bind (t8[(Int.toNat t10)]?) fun x2=>
 bif ((zal (ub x2))==t1) then
 some (.inr ((true,()),()))
 else
 Cd n t1 t8 t9 (zal (t10+1))
 else none
 else
 some (.inl ((),()))
noncomputable def sa:aM:=⟨226,2,none,Gq,[(.exit 0,nS),(.ret,sM)],0,fun n x=>Cd n x.1.1 x.1.2.1 x.1.2.2.1 x.1.2.2.2.1,[],[]⟩
theorem rU:nS.ok Tryz.prog hint:=Tm.dq rfl
theorem wP:sM.ok Tryz.prog hint:=Tm.dq rfl
theorem lX:Gq.ok Tryz.prog hint:=Tm.dq rfl
theorem A1:∀ n,ao Tryz.prog hint aG sa n:=
 ao.of (hk:=fun β=>(an.mk [] []).hk β) (sh:=aG) (aL.of (by kernel_rfl)) lX ⟨⟨rU,zai _,zai _⟩,⟨wP,zai _,zai _⟩,trivial⟩ (fun m=>ab.aK ab.nil m)
  (fun _=>by kernel_rfl) (fun m x=>by kernel_rfl)
noncomputable def Ph (n:Nat) (c:Int):Option d8:=
 Option.bind (Cd (n+1) c ([44,91,93,123,125]:List UInt8) 5 0) fun y3=>
 match y3 with
 | .inl _=>
 some (false,())
 | .inr y5=>
 some (y5.1.1,())
noncomputable def vZ:bu:=⟨204,[(false,am)],[(false,.bool)],2,fun n x=>Ph n x.1⟩
theorem E9 (n:Nat):aI Tryz.prog hint aG vZ n:=
 aI.of (hk:=fun β=>(an.mk [] [sa]).hk β) (sh:=aG) (fun m _=>ab.aK (ab.nil.loop A1 lX) m) (fun x=>by kernel_rfl)
noncomputable def Vm (n:Nat) (c:Int):Option d8:=
 Option.bind (Cd (n+1) c ([45,63,58,44,91,93,123,125,35,38,42,33,124,62,39,34,37,64,96]:List UInt8) 19 0) fun y0=>
 match y0 with
 | .inl _=>
 some (false,())
 | .inr y2=>
 some (y2.1.1,())
noncomputable def Gt:bu:=⟨299,[(false,am)],[(false,.bool)],2,fun n x=>Vm n x.1⟩
theorem Ow (n:Nat):aI Tryz.prog hint aG Gt n:=
 aI.of (hk:=fun β=>(an.mk [] [sa]).hk β) (sh:=aG) (fun m _=>ab.aK (ab.nil.loop A1 lX) m) (fun x=>by kernel_rfl)
noncomputable def nT:Tm:=⟨[(0,.one (.aC am))],[],65,65,1001⟩
noncomputable def F7:Tm:=⟨[(0,.one (.aC am))],[],65,65,1001⟩
noncomputable def Iy:Nat->bv->Option (g6×Unit)
 |0,_=>none
 |n+1,t0=>
 bif (aR 0 (len t0)) then
 Option.bind (t0[0]?) fun x4=>
 Option.bind (blank (n+1) x4) fun y5=>
 bif y5.1 then
 none
 else
 some ((t0,()),())
 else
 none
noncomputable def Ag:aM:=⟨131,1,none,F7,[(.exit 0,nT)],1,fun n x=>Iy n x.1.1,[64],[]⟩
theorem ss:nT.ok Tryz.prog hint:=Tm.dq rfl
theorem s7:F7.ok Tryz.prog hint:=Tm.dq rfl
theorem Mu:∀ n,ao Tryz.prog hint aG Ag n:=
 ao.of (hk:=fun β=>(an.mk [fL] []).hk β) (sh:=aG) (aL.of (by kernel_rfl)) s7 ⟨⟨ss,zai _,zai _⟩,trivial⟩ (fun m=>ab.aK (ab.nil.fn gw) m)
  (fun _=>by kernel_rfl) (fun m x=>by kernel_rfl)
noncomputable def bare (n:Nat) (x:i6):Option d8:=
 Option.bind (Iy n x.2) fun y6=>
 Option.bind (bif ((len y6.1.1)==0) then
 none
 else
 Option.bind (y6.1.1[0]?) fun x8=>
 some (x8==35)) fun b9=>
 some (b9,())
noncomputable def LQ:bu:=⟨108,[(true,(.cons am (.aJ am)))],[(false,.bool)],2,fun n x=>bare n x.1⟩
theorem SQ (n:Nat):aI Tryz.prog hint aG LQ n:=
 aI.of (hk:=fun β=>(an.mk [] [Ag]).hk β) (sh:=aG) (fun m _=>ab.aK (ab.nil.loop Mu s7) m) (fun x=>by kernel_rfl)
noncomputable def pN:Tm:=⟨[],[(64,.cells 75 [be,.aC am] true)],66,66,1002⟩
noncomputable def KE:Tm:=⟨[(1,.one (.fix (TV.ptr 64 0))),(28,.one (.all 66 3 am .no)),(29,ac),(30,ac)],[(64,.cells 75 [be,.aC am] true)],66,67,1002⟩
noncomputable def nC:Nat->bv->Int->Int->Int->bv->Option (Unit×((Int×g6)×Unit))
 |0,_,_,_,_,_=>none
 |n+1,t28,t29,t30,c64_0,c64_1=>
 bif (aR t30 t29) then
 bif ((aQ 0 t30) &&(aR t30 (len t28))) then
 Option.bind (t28[(Int.toNat t30)]?) fun x8=>
 Option.bind (c64_1[0]?) fun x9=>
 bif (x9==x8) then
 Option.bind (c64_1[1]?) fun x10=>
 bif (x10==x8) then
 none
 else
 nC n t28 t29 (zal (t30+1)) c64_0 c64_1
 else
 nC n t28 t29 (zal (t30+1)) c64_0 c64_1
 else none
 else
 some ((),((c64_0,(c64_1,())),()))
noncomputable def DW:aM:=⟨83,4,none,KE,[(.exit 0,pN)],0,fun n x=>nC n x.1.2.1 x.1.2.2.1 x.1.2.2.2.1 x.2.1.1 x.2.1.2.1,[],[64]⟩
theorem uf:pN.ok Tryz.prog hint:=Tm.dq rfl
theorem xm:KE.ok Tryz.prog hint:=Tm.dq rfl
theorem Q1:∀ n,ao Tryz.prog hint aG DW n:=
 ao.of (hk:=fun β=>(an.mk [] []).hk β) (sh:=aG) (aL.of (by kernel_rfl)) xm ⟨⟨uf,zai _,zai _⟩,trivial⟩ (fun m=>ab.aK ab.nil m)
  (fun _=>by kernel_rfl) (fun m x=>by kernel_rfl)
noncomputable def oA (n:Nat) (x:i6):Option dg:=
 bif (x.1 !=0) then
 none
 else
 bif (aR (len x.2) 3) then
 some (0,())
 else
 bif (aR 3 (len x.2)) then
 Option.bind (x.2[3]?) fun x0=>
 Option.bind (blank n x0) fun y1=>
 bif (!y1.1) then
 some (0,())
 else
 Option.bind (nC (n+1) (45::(46::([]:List Int))) 2 0 x.1 x.2) fun _=>
 some (0,())
 else
 Option.bind (nC (n+1) (45::(46::([]:List Int))) 2 0 x.1 x.2) fun _=>
 some (0,())
noncomputable def jP:bu:=⟨83,[(true,(.cons am (.aJ am)))],[(false,am)],1,fun n x=>oA n x.1⟩
theorem nj (n:Nat):aI Tryz.prog hint aG jP n:=
 aI.of (hk:=fun β=>(an.mk [fL] [DW]).hk β) (sh:=aG) (fun m _=>ab.aK ((ab.nil.fn gw).loop Q1 xm) m) (fun x=>by kernel_rfl)
noncomputable def safe (n:Nat) (l:List Int) (i:Int) (flow:Bool):Option d8:=
 bif (aR i (len l)) then
 bif (aQ 0 i) then
 Option.bind (l[(Int.toNat i)]?) fun x0=>
 Option.bind (print (n+1) x0) fun y1=>
 bif y1.1 then
 Option.bind (blank (n+2) x0) fun y2=>
 bif (!y2.1) then
 bif (x0 !=10) then
 bif (x0 !=13) then
 bif (x0 !=65279) then
 bif flow then
 Option.bind (Ph n x0) fun y3=>
 some ((!y3.1),())
 else
 none
 else
 none
 else
 none
 else
 none
 else
 none
 else
 none
 else none
 else
 none
noncomputable def K6:bu:=⟨298,[(false,(.aJ am)),(false,am),(false,.bool)],[(false,.bool)],4,fun n x=>safe n x.1 x.2.1 x.2.2.1⟩
theorem Tn (n:Nat):aI Tryz.prog hint aG K6 n:=
 aI.of (hk:=fun β=>(an.mk [vZ,fL,wJ] []).hk β) (sh:=aG) (fun m _=>ab.aK (((ab.nil.fn Ei).fn gw).fn E9) m) (fun x=>by kernel_rfl)
noncomputable def OY (n:Nat) (l:List Int) (flow:Bool):Option d8:=
 Option.bind (safe n l 0 flow) fun y0=>
 bif (!y0.1) then
 none
 else
 Option.bind (l[0]?) fun x1=>
 bif (x1==45) then
 none
 else
 bif (x1==63) then
 none
 else
 bif (x1==58) then
 none
 else
 Option.bind (l[0]?) fun x2=>
 Option.bind (Vm (n+2) x2) fun y3=>
 some ((!y3.1),())
noncomputable def Bf:bu:=⟨270,[(false,(.aJ am)),(false,.bool)],[(false,.bool)],5,fun n x=>OY n x.1 x.2.1⟩
theorem Nk (n:Nat):aI Tryz.prog hint aG Bf n:=
 aI.of (hk:=fun β=>(an.mk [Gt,K6] []).hk β) (sh:=aG) (fun m _=>ab.aK ((ab.nil.fn Tn).fn Ow) m) (fun x=>by kernel_rfl)
noncomputable def l9:Tm:=⟨[],[(64,.cells 24 [.aC am] true),(65,.cells 4 [.bool] true),(66,.cells 3 [be] true),(68,.cells 4 [.bool] true),(69,.loop 321 Go.LoopState.done (Option.some Go.Code.ret) (jy Tryz.prog hint 321) [(2,.one (.fix (TV.ptr 64 0))),(3,.one (.fix (TV.ptr 65 0))),(4,.one (.fix (TV.ptr 66 0)))] (aH Tryz.prog 321 4).1 (aH Tryz.prog 321 4).2.1 (aH Tryz.prog 321 4).2.2)],70,70,1006⟩
noncomputable def xH:Tm:=⟨[(0,.one (.fix (TV.mX 69))),(2,.one (.fix (TV.ptr 68 0))),(6,.one (.aC am)),(7,ac),(8,ac)],[(64,.cells 24 [.aC am] true),(65,.cells 4 [.bool] true),(66,.cells 3 [be] true),(68,.cells 4 [.bool] true),(69,.loop 321 Go.LoopState.ready (Option.none) (jy Tryz.prog hint 321) [(2,.one (.fix (TV.ptr 64 0))),(3,.one (.fix (TV.ptr 65 0))),(4,.one (.fix (TV.ptr 66 0)))] (aH Tryz.prog 321 4).1 (aH Tryz.prog 321 4).2.1 (aH Tryz.prog 321 4).2.2)],70,70,1006⟩
noncomputable def HL:Nat->bv->Int->Int->bv->Bool->Int->Bool->Option (Unit×(g6×(d8×(dg×(d8×(md×Unit))))))
 |0,_,_,_,_,_,_,_=>none
 |n+1,t6,t7,t8,c64_0,c65_0,c66_0,c68_0=>
 bif (aR t8 t7) then
 bif (aQ 0 t8) then
 Option.bind (t6[(Int.toNat t8)]?) fun x8=>
 bif (x8==58) then
 none
 else
 bif (x8==35) then
 none
 else
 bif c68_0 then
 Option.bind (Ph (n+1) x8) fun y9=>
 bif y9.1 then
 bif (aQ 0 t8) then
 Option.bind (c64_0[(Int.toNat t8)]?) fun x10=>
 bif (x10==58) then
 none
 else
 bif (aQ 0 t8) then
 Option.bind (c64_0[(Int.toNat t8)]?) fun x11=>
 bif (x11==35) then
 none
 else
 some ((),((c64_0,()),((c65_0,()),((t8,()),((c68_0,()),(((),((),((),()))),()))))))
 else none
 else none
 else
 HL n t6 t7 (zal (t8+1)) c64_0 c65_0 c66_0 c68_0
 else
 none
 else none
 else
 none
noncomputable def BC:aM:=⟨336,1,none,xH,[(.ret,l9)],3,fun n x=>HL n x.1.2.2.1 x.1.2.2.2.1 x.1.2.2.2.2.1 x.2.1.1 x.2.2.1.1 x.2.2.2.1.1 x.2.2.2.2.1.1,[67],[64,65,68]⟩
theorem vx:l9.ok Tryz.prog hint:=by
 intro p hp;simp only [l9,List.mem_cons,List.not_mem_nil,or_false] at hp;rcases hp with rfl |rfl |rfl |rfl |rfl
 ·trivial
 ·trivial
 ·trivial
 ·trivial
 ·exact jJ.of (by kernel_rfl) (by kernel_rfl)
theorem s5:xH.ok Tryz.prog hint:=by
 intro p hp;simp only [xH,List.mem_cons,List.not_mem_nil,or_false] at hp;rcases hp with rfl |rfl |rfl |rfl |rfl
 ·trivial
 ·trivial
 ·trivial
 ·trivial
 ·exact jJ.of (by kernel_rfl) (by kernel_rfl)
theorem NM:∀ n,ao Tryz.prog hint aG BC n:=
 ao.of (hk:=fun β=>(an.mk [vZ] []).hk β) (sh:=aG) (aL.of (by kernel_rfl)) s5 ⟨⟨vx,zai _,zai _⟩,trivial⟩ (fun m=>ab.aK (ab.nil.fn E9) m)
  (fun _=>by kernel_rfl) (fun m x=>by kernel_rfl)
noncomputable def stop (n:Nat) (l:List Int) (flow:Bool):Option dg:=
 Option.bind (HL n l (len l) 0 l flow 0 flow) fun y12=>
 some (y12.2.2.2.1.1,())
noncomputable def Lu:bu:=⟨321,[(false,(.aJ am)),(false,.bool)],[(false,am)],4,fun n x=>stop n x.1 x.2.1⟩
theorem Uk (n:Nat):aI Tryz.prog hint aG Lu n:=
 aI.of (hk:=fun β=>(an.mk [] [BC]).hk β) (sh:=aG) (fun m _=>ab.aK (ab.nil.loop NM s5) m) (fun x=>by kernel_rfl)
noncomputable def nJ:Tm:=⟨[(5,ac)],[],64,64,1000⟩
noncomputable def Fx:Tm:=⟨[(0,.one (.aC am)),(5,ac)],[],64,64,1000⟩
noncomputable def QC:Nat->bv->Int->Option mt
 |0,_,_=>none
 |n+1,t0,t5=>
 bif (aR 0 t5) then
 bif (aQ 0 (zal (t5 - 1))) then
 Option.bind (t0[(Int.toNat (zal (t5 - 1)))]?) fun x5=>
 Option.bind (blank (n+1) x5) fun y6=>
 bif y6.1 then
 none
 else
 some ((t5,()),())
 else none
 else
 none
noncomputable def A7:aM:=⟨301,2,none,Fx,[(.exit 0,nJ)],1,fun n x=>QC n x.1.1 x.1.2.1,[],[]⟩
theorem rE:nJ.ok Tryz.prog hint:=Tm.dq rfl
theorem sL:Fx.ok Tryz.prog hint:=Tm.dq rfl
theorem Mv:∀ n,ao Tryz.prog hint aG A7 n:=
 ao.of (hk:=fun β=>(an.mk [fL] []).hk β) (sh:=aG) (aL.of (by kernel_rfl)) sL ⟨⟨rE,zai _,zai _⟩,trivial⟩ (fun m=>ab.aK (ab.nil.fn gw) m)
  (fun _=>by kernel_rfl) (fun m x=>by kernel_rfl)
noncomputable def X0 (n:Nat) (l:List Int) (flow:Bool):Option dg:=
 Option.bind (stop n l flow) fun y0=>
 Option.bind (QC (n+4) l y0.1) fun y7=>
 some (y7.1.1,())
noncomputable def Lc:bu:=⟨301,[(false,(.aJ am)),(false,.bool)],[(false,am)],5,fun n x=>X0 n x.1 x.2.1⟩
theorem Ug (n:Nat):aI Tryz.prog hint aG Lc n:=
 aI.of (hk:=fun β=>(an.mk [Lu] [A7]).hk β) (sh:=aG) (fun m _=>ab.aK ((ab.nil.fn Uk).loop Mv sL) m) (fun x=>by kernel_rfl)
noncomputable def jD:Tm:=⟨[],[(64,.cells 335 [.aC (.aJ am)] true),(65,.cells 24 [.all 70 3 am .ex] true),(66,.cells 3 [be] true),(67,.cells 3 [be] true),(68,.cells 335 [.aC (.aJ am)] true),(69,.loop 304 Go.LoopState.ready (Option.none) (jy Tryz.prog hint 304) [(1,.one (.fix (TV.ptr 64 0))),(3,.one (.fix (TV.ptr 65 0))),(4,.one (.fix (TV.ptr 66 0))),(5,.one (.fix (TV.ptr 67 0)))] (aH Tryz.prog 304 5).1 (aH Tryz.prog 304 5).2.1 (aH Tryz.prog 304 5).2.2)],70,71,1008⟩
noncomputable def xq:Tm:=⟨[(0,.one (.fix (TV.mX 69))),(1,.one (.fix (TV.ptr 68 0))),(5,.one (.aC (.aJ am))),(6,ac),(7,ac)],[(64,.cells 335 [.aC (.aJ am)] true),(65,.cells 24 [.all 70 3 am .ex] true),(66,.cells 3 [be] true),(67,.cells 3 [be] true),(68,.cells 335 [.aC (.aJ am)] true),(69,.loop 304 Go.LoopState.ready (Option.none) (jy Tryz.prog hint 304) [(1,.one (.fix (TV.ptr 64 0))),(3,.one (.fix (TV.ptr 65 0))),(4,.one (.fix (TV.ptr 66 0))),(5,.one (.fix (TV.ptr 67 0)))] (aH Tryz.prog 304 5).1 (aH Tryz.prog 304 5).2.1 (aH Tryz.prog 304 5).2.2)],70,71,1008⟩
noncomputable def IJ:Nat->(List bv)->Int->Int->(List bv)->bv->Int->Int->(List bv)->Option (Unit×(((List bv)×Unit)×(g6×(dg×(dg×(((List bv)×Unit)×((Unit×md)×Unit)))))))
 |0,_,_,_,_,_,_,_,_=>none
 |n+1,t5,t6,t7,c64_0,c65_0,c66_0,c67_0,c68_0=>
 bif (aR t7 t6) then
 bif (aQ 0 t7) then
 Option.bind (t5[(Int.toNat t7)]?) fun x3=>
 bif (aR 0 t7) then
 none
 else
 bif (aR (zal (t7+1)) (len c68_0)) then
 none
 else
 bif (c66_0==0) then
 bif (room (((List.length c65_0)+(List.length x3))*9)) then
 IJ n t5 t6 (zal (t7+1)) c64_0 (c65_0++x3) (zal (c66_0+1)) c67_0 c68_0
 else none
 else
 none
 else none
 else
 some ((),((c64_0,()),((c65_0,()),((c66_0,()),((c67_0,()),((c68_0,()),(((),((),((),((),())))),())))))))
noncomputable def zN:aM:=⟨329,1,none,xq,[(.exit 0,jD)],1,fun n x=>IJ n x.1.2.2.1 x.1.2.2.2.1 x.1.2.2.2.2.1 x.2.1.1 x.2.2.1.1 x.2.2.2.1.1 x.2.2.2.2.1.1 x.2.2.2.2.2.1.1,[],[64,67,68]⟩
theorem rk:jD.ok Tryz.prog hint:=by
 intro p hp;simp only [jD,List.mem_cons,List.not_mem_nil,or_false] at hp;rcases hp with rfl |rfl |rfl |rfl |rfl |rfl
 ·trivial
 ·trivial
 ·trivial
 ·trivial
 ·trivial
 ·exact jJ.of (by kernel_rfl) (by kernel_rfl)
theorem th:xq.ok Tryz.prog hint:=by
 intro p hp;simp only [xq,List.mem_cons,List.not_mem_nil,or_false] at hp;rcases hp with rfl |rfl |rfl |rfl |rfl |rfl
 ·trivial
 ·trivial
 ·trivial
 ·trivial
 ·trivial
 ·exact jJ.of (by kernel_rfl) (by kernel_rfl)
theorem Mj:∀ n,ao Tryz.prog hint aG zN n:=
 ao.of (hk:=fun β=>(an.mk [] []).hk β) (sh:=aG) (aL.of (by kernel_rfl)) th ⟨⟨rk,zai _,zai _⟩,trivial⟩ (fun m=>ab.aK ab.nil m)
  (fun _=>by kernel_rfl) (fun m x=>by kernel_rfl)
noncomputable def Ho (n:Nat) (l:List bv):Option g6:=
 Option.bind (IJ n l (len l) 0 l ([]:List Int) 0 0 l) fun y4=>
 some (y4.2.2.1.1,())
noncomputable def ta:bu:=⟨304,[(false,(.aJ (.aJ am)))],[(false,(.aJ am))],2,fun n x=>Ho n x.1⟩
theorem E7 (n:Nat):aI Tryz.prog hint aG ta n:=
 aI.of (hk:=fun β=>(an.mk [] [zN]).hk β) (sh:=aG) (fun m _=>ab.aK (ab.nil.loop Mj th) m) (fun x=>by kernel_rfl)
set_option maxRecDepth 100000
noncomputable def j9 (D:Nat) (F:Nat->ak [(true,(.cons am am))]×aF [(64,.cells 314 [.aC (.cons am (.aJ am)),ap,ap,ap,ap,ap] true)]->Option (PR none (ak [(false,(.aJ am))]×aF []))):bm:=⟨246,[(TV.ptr 64 0)],[(true,(.cons am am))],[(false,(.aJ am))],65,[(64,.cells 314 [.aC (.cons am (.aJ am)),ap,ap,ap,ap,ap] true)],65,[],65,true,none,D,F⟩
theorem iq (D:Nat) (F):(j9 D F).T.ok Tryz.prog hint:=by
 intro p hp;simp only [j9,bm.T,List.mem_cons,List.not_mem_nil,or_false] at hp;rcases hp with rfl
 ·trivial
theorem JG (D:Nat) (F):(j9 D F).T2.ok Tryz.prog hint:=by
 intro p hp;simp only [j9,bm.T2,List.mem_cons,List.not_mem_nil,or_false] at hp
 
noncomputable def qf (_n:Nat) (p:gt) (c64_0:bi):Option (g6×Unit):=
 bif (aR p.1 0) then
 none
 else
 bif (aQ (len c64_0) p.1) then
 none
 else
 bif (aR p.2 0) then
 none
 else
 bif (aQ 0 p.1) then
 Option.bind (c64_0[(Int.toNat p.1)]?) fun x0=>
 bif (aR p.2 x0.1) then
 none
 else
 bif ((aQ 0 (bif (aR (len x0.2) (zal (p.2 - (bif (aR 0 x0.1) then x0.1 else 0)))) then (len x0.2) else (zal (p.2 - (bif (aR 0 x0.1) then x0.1 else 0))))) &&(aQ (bif (aR (len x0.2) (zal (p.2 - (bif (aR 0 x0.1) then x0.1 else 0)))) then (len x0.2) else (zal (p.2 - (bif (aR 0 x0.1) then x0.1 else 0)))) (len x0.2))) then
 some (((List.take ((List.length x0.2) - (Int.toNat (bif (aR (len x0.2) (zal (p.2 - (bif (aR 0 x0.1) then x0.1 else 0)))) then (len x0.2) else (zal (p.2 - (bif (aR 0 x0.1) then x0.1 else 0)))))) (List.drop (Int.toNat (bif (aR (len x0.2) (zal (p.2 - (bif (aR 0 x0.1) then x0.1 else 0)))) then (len x0.2) else (zal (p.2 - (bif (aR 0 x0.1) then x0.1 else 0))))) x0.2)),()),())
 else none
 else none
noncomputable def iM:bm:=j9 0 (fun n x=>qf n x.1.1 x.2.1.1)
theorem j8 (n:Nat):aN Tryz.prog hint aG iM n:=
 aN.of (hk:=fun β=>(an.mk [] []).hk β) (sh:=aG) (JG _ _) (fun m _=>ab.aK ab.nil m) (fun x s=>by kernel_rfl)
noncomputable def pP (D:Nat) (F:Nat->ak [(true,(.cons am am)),(false,am)]×aF [(64,.cells 314 [.aC (.cons am (.aJ am)),ap,ap,ap,ap,ap] true)]->Option (PR none (ak [(false,.bool)]×aF []))):bm:=⟨296,[(TV.ptr 64 0)],[(true,(.cons am am)),(false,am)],[(false,.bool)],65,[(64,.cells 314 [.aC (.cons am (.aJ am)),ap,ap,ap,ap,ap] true)],65,[],65,true,none,D,F⟩
theorem K8 (D:Nat) (F):(pP D F).T.ok Tryz.prog hint:=by
 intro p hp;simp only [pP,bm.T,List.mem_cons,List.not_mem_nil,or_false] at hp;rcases hp with rfl
 ·trivial
theorem QQ (D:Nat) (F):(pP D F).T2.ok Tryz.prog hint:=by
 intro p hp;simp only [pP,bm.T2,List.mem_cons,List.not_mem_nil,or_false] at hp
 
noncomputable def Wj (n:Nat) (p:gt) (c:Int) (c64_0:bi):Option lw:=
 Option.bind (qf n (p.1,p.2) c64_0) fun y0=>
 Option.bind (bif (aR 0 (len y0.1.1)) then
 Option.bind (y0.1.1[0]?) fun x2=>
 some (x2==c)
 else
 none) fun b3=>
 some ((b3,()),())
noncomputable def JB:bm:=pP 1 (fun n x=>Wj n x.1.1 x.1.2.1 x.2.1.1)
theorem Sr (n:Nat):aN Tryz.prog hint aG JB n:=
 aN.of (hk:=fun β=>(an.mk [] []).vb [iM] β) (sh:=aG) (QQ _ _) (fun m _=>ab.eG ab.nil (ct.nil.fn j8 (iq _ _)) m) (fun x s=>by kernel_rfl)
noncomputable def fS (D:Nat) (F:Nat->ak [(true,(.cons am am)),(false,(.aJ am))]×aF [(64,.cells 314 [.aC (.cons am (.aJ am)),ap,ap,ap,ap,ap] true)]->Option (PR none (ak [(false,.bool)]×aF []))):bm:=⟨275,[(TV.ptr 64 0)],[(true,(.cons am am)),(false,(.aJ am))],[(false,.bool)],65,[(64,.cells 314 [.aC (.cons am (.aJ am)),ap,ap,ap,ap,ap] true)],65,[],65,true,none,D,F⟩
theorem Cv (D:Nat) (F):(fS D F).T.ok Tryz.prog hint:=by
 intro p hp;simp only [fS,bm.T,List.mem_cons,List.not_mem_nil,or_false] at hp;rcases hp with rfl
 ·trivial
theorem yP (D:Nat) (F):(fS D F).T2.ok Tryz.prog hint:=by
 intro p hp;simp only [fS,bm.T2,List.mem_cons,List.not_mem_nil,or_false] at hp
 
noncomputable def oS (_n:Nat) (_p:gt) (l:List Int) (c64_0:bi):Option lw:=
 Option.bind (bif ((len l)==0) then
 none
 else
 Option.bind (l[0]?) fun x1=>
 some (x1 !=35)) fun b2=>
 bif b2 then
 some ((false,()),())
 else
 none
noncomputable def tq:bm:=fS 0 (fun n x=>oS n x.1.1 x.1.2.1 x.2.1.1)
theorem F3 (n:Nat):aN Tryz.prog hint aG tq n:=
 aN.of (hk:=fun β=>(an.mk [] []).hk β) (sh:=aG) (yP _ _) (fun m _=>ab.aK ab.nil m) (fun x s=>by kernel_rfl)
noncomputable def jM (D:Nat) (F:Nat->ak [(true,(.cons am am))]×aF [(64,.cells 314 [.aC (.cons am (.aJ am)),ap,ap,ap,ap,ap] true)]->Option (PR none (ak [(true,(.cons am am)),(false,(.aJ am))]×aF []))):bm:=⟨248,[(TV.ptr 64 0)],[(true,(.cons am am))],[(true,(.cons am am)),(false,(.aJ am))],65,[(64,.cells 314 [.aC (.cons am (.aJ am)),ap,ap,ap,ap,ap] true)],65,[],65,true,none,D,F⟩
theorem rq (D:Nat) (F):(jM D F).T.ok Tryz.prog hint:=by
 intro p hp;simp only [jM,bm.T,List.mem_cons,List.not_mem_nil,or_false] at hp;rcases hp with rfl
 ·trivial
theorem IV (D:Nat) (F):(jM D F).T2.ok Tryz.prog hint:=by
 intro p hp;simp only [jM,bm.T2,List.mem_cons,List.not_mem_nil,or_false] at hp
 
noncomputable def nI:Tm:=⟨[(3,.one (.fix (TV.ptr 65 0))),(4,.one (.fix (TV.ptr 66 0))),(6,.one (.aC am))],[(65,.cells 293 [be,be] true),(66,.cells 293 [be,be] true)],67,67,1004⟩
noncomputable def E5:Tm:=⟨[(3,.one (.fix (TV.ptr 65 0))),(4,.one (.fix (TV.ptr 66 0))),(6,.one (.aC am))],[(65,.cells 293 [be,be] true),(66,.cells 293 [be,be] true)],67,67,1004⟩
noncomputable def Cs:Nat->bv->Int->Int->Int->Int->Option ((Unit×(Unit×g6))×(g7×(g7×Unit)))
 |0,_,_,_,_,_=>none
 |n+1,t6,c65_0,c65_1,c66_0,c66_1=>
 bif (aR 0 (len t6)) then
 Option.bind (t6[0]?) fun x6=>
 Option.bind (blank (n+1) x6) fun y7=>
 bif y7.1 then
 none
 else
 some (((),((),(t6,()))),((c65_0,(c65_1,())),((c66_0,(c66_1,())),())))
 else
 some (((),((),(t6,()))),((c65_0,(c65_1,())),((c66_0,(c66_1,())),())))
noncomputable def zQ:aM:=⟨248,4,none,E5,[(.exit 0,nI)],1,fun n x=>Cs n x.1.2.2.1 x.2.1.1 x.2.1.2.1 x.2.2.1.1 x.2.2.1.2.1,[64],[65,66]⟩
theorem ru:nI.ok Tryz.prog hint:=Tm.dq rfl
theorem s6:E5.ok Tryz.prog hint:=Tm.dq rfl
theorem L4:∀ n,ao Tryz.prog hint aG zQ n:=
 ao.of (hk:=fun β=>(an.mk [fL] []).hk β) (sh:=aG) (aL.of (by kernel_rfl)) s6 ⟨⟨ru,zai _,zai _⟩,trivial⟩ (fun m=>ab.aK (ab.nil.fn gw) m)
  (fun _=>by kernel_rfl) (fun m x=>by kernel_rfl)
noncomputable def xM (n:Nat) (p:gt) (c64_0:bi):Option ((gt×g6)×Unit):=
 bif (aQ 0 p.1) then
 bif (aR p.1 (len c64_0)) then
 bif (aQ 0 p.1) then
 Option.bind (c64_0[(Int.toNat p.1)]?) fun x0=>
 Option.bind (qf n (p.1,(bif (aR p.2 x0.1) then x0.1 else p.2)) c64_0) fun y1=>
 Option.bind (Cs n y1.1.1 p.1 (bif (aR p.2 x0.1) then x0.1 else p.2) 0 0) fun y8=>
 some (((p.1,(bif (aR p.2 x0.1) then x0.1 else p.2)),y8.1.2.2.1,()),())
 else none
 else
 none
 else
 none
noncomputable def qE:bm:=jM 1 (fun n x=>xM n x.1.1 x.2.1.1)
theorem yC (n:Nat):aN Tryz.prog hint aG qE n:=
 aN.of (hk:=fun β=>(an.mk [] [zQ]).vb [iM] β) (sh:=aG) (IV _ _) (fun m _=>ab.eG (ab.nil.loop L4 s6) (ct.nil.fn j8 (iq _ _)) m) (fun x s=>by kernel_rfl)
noncomputable def oQ (D:Nat) (F:Nat->ak [(true,(.cons am am))]×aF [(64,.cells 314 [.aC (.cons am (.aJ am)),be,ap,ap,ap,ap] true)]->Option (PR none (ak [(true,(.cons am am)),(false,.bool)]×aF []))):bm:=⟨250,[(TV.ptr 64 0)],[(true,(.cons am am))],[(true,(.cons am am)),(false,.bool)],65,[(64,.cells 314 [.aC (.cons am (.aJ am)),be,ap,ap,ap,ap] true)],65,[],65,true,none,D,F⟩
theorem LH (D:Nat) (F):(oQ D F).T.ok Tryz.prog hint:=by
 intro p hp;simp only [oQ,bm.T,List.mem_cons,List.not_mem_nil,or_false] at hp;rcases hp with rfl
 ·trivial
theorem RD (D:Nat) (F):(oQ D F).T2.ok Tryz.prog hint:=by
 intro p hp;simp only [oQ,bm.T2,List.mem_cons,List.not_mem_nil,or_false] at hp
 
noncomputable def mi:Tm:=⟨[],[(64,.cells 314 [.aC (.cons am (.aJ am)),be,ap,ap,ap,ap] true),(65,.cells 290 [.fix (TV.ptr 64 0)] true),(66,.cells 293 [be,be] true),(67,.cells 293 [be,be] true),(68,.cells 4 [.bool] true),(69,.cells 290 [.fix (TV.ptr 64 0)] true),(70,.cells 293 [be,be] true),(71,.loop 250 Go.LoopState.done (Option.some Go.Code.ret) (jy Tryz.prog hint 250) [(2,.one (.fix (TV.ptr 65 0))),(3,.one (.fix (TV.ptr 66 0))),(4,.one (.fix (TV.ptr 67 0))),(5,.one (.fix (TV.ptr 68 0)))] (aH Tryz.prog 250 4).1 (aH Tryz.prog 250 4).2.1 (aH Tryz.prog 250 4).2.2)],72,72,1008⟩
noncomputable def yo:Tm:=⟨[(0,.one (.fix (TV.mX 71))),(1,.one (.fix (TV.ptr 69 0))),(2,.one (.fix (TV.ptr 70 0)))],[(64,.cells 314 [.aC (.cons am (.aJ am)),be,ap,ap,ap,ap] true),(65,.cells 290 [.fix (TV.ptr 64 0)] true),(66,.cells 293 [be,be] true),(67,.cells 293 [be,be] true),(68,.cells 4 [.bool] true),(69,.cells 290 [.fix (TV.ptr 64 0)] true),(70,.cells 293 [be,be] true),(71,.loop 250 Go.LoopState.ready (Option.none) (jy Tryz.prog hint 250) [(2,.one (.fix (TV.ptr 65 0))),(3,.one (.fix (TV.ptr 66 0))),(4,.one (.fix (TV.ptr 67 0))),(5,.one (.fix (TV.ptr 68 0)))] (aH Tryz.prog 250 4).1 (aH Tryz.prog 250 4).2.1 (aH Tryz.prog 250 4).2.2)],72,72,1008⟩
noncomputable def Jh:Nat->bi->Int->Int->Int->Int->Int->Bool->Int->Int->Option (Unit×((bi×(Int×(Unit×md)))×(d9×(g7×(g7×(d8×(d9×(g7×((Unit×md)×Unit)))))))))
 |0,_,_,_,_,_,_,_,_,_=>none
 |n+1,c64_0,c64_1,c66_0,c66_1,_,_,_,c70_0,c70_1=>
 Option.bind (xM (n+1) (c70_0,c70_1) c64_0) fun y4=>
 bif (aR 0 (len y4.1.2.1)) then
 Option.bind (oS (n+2) (y4.1.1.1,y4.1.1.2) y4.1.2.1 c64_0) fun y5=>
 bif (!(!y5.1.1)) then
 none
 else
 bif (aR c66_0 y4.1.1.1) then
 none
 else
 some ((),((c64_0,(c64_1,((),((),((),((),())))))),(((),()),((c66_0,(c66_1,())),((y4.1.1.1,(y4.1.1.2,())),((true,()),(((),()),((c70_0,(c70_1,())),(((),((),((),((),())))),())))))))))
 else
 none
noncomputable def Bj:aM:=⟨274,0,none,yo,[(.ret,mi)],2,fun n x=>Jh n x.2.1.1 x.2.1.2.1 x.2.2.2.1.1 x.2.2.2.1.2.1 x.2.2.2.2.1.1 x.2.2.2.2.1.2.1 x.2.2.2.2.2.1.1 x.2.2.2.2.2.2.2.1.1 x.2.2.2.2.2.2.2.1.2.1,[],[64,65,66,69,70]⟩
theorem yj:mi.ok Tryz.prog hint:=by
 intro p hp;simp only [mi,List.mem_cons,List.not_mem_nil,or_false] at hp;rcases hp with rfl |rfl |rfl |rfl |rfl |rfl |rfl |rfl
 ·trivial
 ·trivial
 ·trivial
 ·trivial
 ·trivial
 ·trivial
 ·trivial
 ·exact jJ.of (by kernel_rfl) (by kernel_rfl)
theorem tE:yo.ok Tryz.prog hint:=by
 intro p hp;simp only [yo,List.mem_cons,List.not_mem_nil,or_false] at hp;rcases hp with rfl |rfl |rfl |rfl |rfl |rfl |rfl |rfl
 ·trivial
 ·trivial
 ·trivial
 ·trivial
 ·trivial
 ·trivial
 ·trivial
 ·exact jJ.of (by kernel_rfl) (by kernel_rfl)
theorem Mt:∀ n,ao Tryz.prog hint aG Bj n:=
 ao.of (hk:=fun β=>(an.mk [] []).vb [tq,qE] β) (sh:=aG) (aL.of (by kernel_rfl)) tE ⟨⟨yj,zai _,zai _⟩,trivial⟩ (fun m=>ab.eG ab.nil ((ct.nil.fn yC (rq _ _)).fn F3 (Cv _ _)) m)
  (fun _=>by kernel_rfl) (fun m x=>by kernel_rfl)
noncomputable def XB (n:Nat) (p:gt) (c64_0:bi) (c64_1:Int):Option ((gt×d8)×Unit):=
 Option.bind (Jh n c64_0 c64_1 p.1 p.2 0 0 false p.1 p.2) fun y6=>
 some (((y6.2.2.2.2.1.1,y6.2.2.2.2.1.2.1),y6.2.2.2.2.2.1.1,()),())
noncomputable def IZ:bm:=oQ 3 (fun n x=>XB n x.1.1 x.2.1.1 x.2.1.2.1)
theorem Pt (n:Nat):aN Tryz.prog hint aG IZ n:=
 aN.of (hk:=fun β=>(an.mk [] [Bj]).hk β) (sh:=aG) (RD _ _) (fun m _=>ab.aK (ab.nil.loop Mt tE) m) (fun x s=>by kernel_rfl)
noncomputable def jN (D:Nat) (F:Nat->ak [(true,(.cons am am))]×aF [(64,.cells 314 [.aC (.cons am (.aJ am)),be,ap,ap,ap,ap] true)]->Option (PR (some 297) (ak [(true,(.cons am am))]×aF []))):bm:=⟨295,[(TV.ptr 64 0)],[(true,(.cons am am))],[(true,(.cons am am))],65,[(64,.cells 314 [.aC (.cons am (.aJ am)),be,ap,ap,ap,ap] true)],65,[],65,true,(some 297),D,F⟩
theorem zY (D:Nat) (F):(jN D F).T.ok Tryz.prog hint:=by
 intro p hp;simp only [jN,bm.T,List.mem_cons,List.not_mem_nil,or_false] at hp;rcases hp with rfl
 ·trivial
theorem HT (D:Nat) (F):(jN D F).T2.ok Tryz.prog hint:=by
 intro p hp;simp only [jN,bm.T2,List.mem_cons,List.not_mem_nil,or_false] at hp
 
noncomputable def yE (n:Nat) (p:gt) (c64_0:bi) (c64_1:Int):Option (((gt×Unit)×Unit)⊕Int):=
 Option.bind (XB n (p.1,p.2) c64_0 c64_1) fun y0=>
 bif (!y0.1.2.1) then
 none
 else
 some (.inl (((y0.1.1.1,y0.1.1.2),()),()))
noncomputable def ya:bm:=jN 4 (fun n x=>yE n x.1.1 x.2.1.1 x.2.1.2.1)
theorem GC (n:Nat):aN Tryz.prog hint aG ya n:=
 aN.of (hk:=fun β=>(an.mk [] []).vb [IZ] β) (sh:=aG) (HT _ _) (fun m _=>ab.eG ab.nil (ct.nil.fn Pt (LH _ _)) m) (fun x s=>by kernel_rfl)
noncomputable def gy (D:Nat) (F:Nat->ak [(true,(.cons am am))]×aF [(64,.cells 314 [.aC (.cons am (.aJ am)),be,ap,ap,ap,ap] true)]->Option (PR (some 297) (ak [(true,(.cons .str (.cons .str (.cons am am)))),(true,(.cons am am)),(false,.bool)]×aF []))):bm:=⟨239,[(TV.ptr 64 0)],[(true,(.cons am am))],[(true,(.cons .str (.cons .str (.cons am am)))),(true,(.cons am am)),(false,.bool)],65,[(64,.cells 314 [.aC (.cons am (.aJ am)),be,ap,ap,ap,ap] true)],65,[],65,true,(some 297),D,F⟩
theorem tU (D:Nat) (F):(gy D F).T.ok Tryz.prog hint:=by
 intro p hp;simp only [gy,bm.T,List.mem_cons,List.not_mem_nil,or_false] at hp;rcases hp with rfl
 ·trivial
theorem CE (D:Nat) (F):(gy D F).T2.ok Tryz.prog hint:=by
 intro p hp;simp only [gy,bm.T2,List.mem_cons,List.not_mem_nil,or_false] at hp
 
noncomputable def nF:Tm:=⟨[(4,.one (.fix (TV.ptr 66 0))),(5,.one (.fix (TV.ptr 67 0))),(7,.one (.fix (TV.ptr 68 0))),(8,.one (.fix (TV.ptr 69 0))),(9,.one (.bool))],[(64,.cells 314 [.aC (.cons am (.aJ am)),be,ap,ap,ap,ap] true),(66,.cells 295 [.str,.str,be,be] true),(67,.cells 293 [be,be] true),(68,.cells 295 [.str,.str,be,be] true),(69,.cells 293 [be,be] true)],70,70,1007⟩
noncomputable def FL:Tm:=⟨[(0,.one (.fix (TV.ptr 64 0))),(4,.one (.fix (TV.ptr 66 0))),(5,.one (.fix (TV.ptr 67 0))),(7,.one (.fix (TV.ptr 68 0))),(8,.one (.fix (TV.ptr 69 0))),(9,.one (.bool))],[(64,.cells 314 [.aC (.cons am (.aJ am)),be,ap,ap,ap,ap] true),(66,.cells 295 [.str,.str,be,be] true),(67,.cells 293 [be,be] true),(68,.cells 295 [.str,.str,be,be] true),(69,.cells 293 [be,be] true)],70,70,1007⟩
noncomputable def IX:Nat->Bool->bi->Int->d7->d7->Int->Int->Int->Int->d7->d7->Int->Int->Int->Int->Option ((Unit×(Unit×(Unit×(Unit×d8))))×((bi×(Int×(Unit×md)))×((d7×(d7×g7))×(g7×((d7×(d7×g7))×(g7×Unit))))))
 |0,_,_,_,_,_,_,_,_,_,_,_,_,_,_,_=>none
 |n+1,t9,c64_0,c64_1,c66_0,c66_1,c66_2,c66_3,c67_0,c67_1,c68_0,c68_1,c68_2,c68_3,c69_0,c69_1=>
 bif t9 then
 Option.bind (qf (n+1) (c69_0,c69_1) c64_0) fun y11=>
 Option.bind (bif ((len y11.1.1)==0) then
 none
 else
 Option.bind (y11.1.1[0]?) fun x13=>
 bif (x13 !=38) then
 Option.bind (y11.1.1[0]?) fun x14=>
 some (x14 !=33)
 else
 none) fun b15=>
 bif b15 then
 some (((),((),((),((),(t9,()))))),((c64_0,(c64_1,((),((),((),((),())))))),((c66_0,(c66_1,(c66_2,(c66_3,())))),((c67_0,(c67_1,())),((c68_0,(c68_1,(c68_2,(c68_3,())))),((c69_0,(c69_1,())),()))))))
 else
 none
 else
 none
noncomputable def A6:aM:=⟨239,3,none,FL,[(.exit 0,nF)],2,fun n x=>IX n x.1.2.2.2.2.2.1 x.2.1.1 x.2.1.2.1 x.2.2.1.1 x.2.2.1.2.1 x.2.2.1.2.2.1 x.2.2.1.2.2.2.1 x.2.2.2.1.1 x.2.2.2.1.2.1 x.2.2.2.2.1.1 x.2.2.2.2.1.2.1 x.2.2.2.2.1.2.2.1 x.2.2.2.2.1.2.2.2.1 x.2.2.2.2.2.1.1 x.2.2.2.2.2.1.2.1,[65],[64,66,67,68,69]⟩
theorem rm:nF.ok Tryz.prog hint:=Tm.dq rfl
theorem tS:FL.ok Tryz.prog hint:=Tm.dq rfl
theorem Oe:∀ n,ao Tryz.prog hint aG A6 n:=
 ao.of (hk:=fun β=>(an.mk [] []).vb [iM] β) (sh:=aG) (aL.of (by kernel_rfl)) tS ⟨⟨rm,zai _,zai _⟩,trivial⟩ (fun m=>ab.eG ab.nil (ct.nil.fn j8 (iq _ _)) m)
  (fun _=>by kernel_rfl) (fun m x=>by kernel_rfl)
noncomputable def ph (n:Nat) (p:gt) (c64_0:bi) (c64_1:Int):Option ((((List UInt8×lc)×(gt×d8))×Unit)⊕Int):=
 Option.bind (XB n (p.1,p.2) c64_0 c64_1) fun y0=>
 Option.bind (IX (n+2) y0.1.2.1 c64_0 c64_1 ([]:List UInt8) ([]:List UInt8) 0 0 0 0 ([]:List UInt8) ([]:List UInt8) 0 0 y0.1.1.1 y0.1.1.2) fun y16=>
 some (.inl (((([]:List UInt8),(([]:List UInt8),(0,0))),(y0.1.1.1,y0.1.1.2),y16.1.2.2.2.2.1,()),()))
noncomputable def ox:bm:=gy 4 (fun n x=>ph n x.1.1 x.2.1.1 x.2.1.2.1)
theorem wz (n:Nat):aN Tryz.prog hint aG ox n:=
 aN.of (hk:=fun β=>(an.mk [] [A6]).vb [IZ] β) (sh:=aG) (CE _ _) (fun m _=>ab.eG (ab.nil.loop Oe tS) (ct.nil.fn Pt (LH _ _)) m) (fun x s=>by kernel_rfl)
noncomputable def iP (D:Nat) (F:Nat->ak [(true,(.cons am am)),(false,am)]×aF [(64,.cells 314 [.aC (.cons am (.aJ am)),ap,ap,ap,ap,ap] true)]->Option (PR none (ak [(false,.bool)]×aF []))):bm:=⟨312,[(TV.ptr 64 0)],[(true,(.cons am am)),(false,am)],[(false,.bool)],65,[(64,.cells 314 [.aC (.cons am (.aJ am)),ap,ap,ap,ap,ap] true)],65,[],65,true,none,D,F⟩
theorem vU (D:Nat) (F):(iP D F).T.ok Tryz.prog hint:=by
 intro p hp;simp only [iP,bm.T,List.mem_cons,List.not_mem_nil,or_false] at hp;rcases hp with rfl
 ·trivial
theorem D3 (D:Nat) (F):(iP D F).T2.ok Tryz.prog hint:=by
 intro p hp;simp only [iP,bm.T2,List.mem_cons,List.not_mem_nil,or_false] at hp
 
noncomputable def yk (n:Nat) (p:gt) (c:Int) (c64_0:bi):Option lw:=
 Option.bind (qf n (p.1,p.2) c64_0) fun y0=>
 bif (aR 0 (len y0.1.1)) then
 Option.bind (y0.1.1[0]?) fun x1=>
 bif (x1==c) then
 none
 else
 some ((false,()),())
 else
 none
noncomputable def rC:bm:=iP 1 (fun n x=>yk n x.1.1 x.1.2.1 x.2.1.1)
theorem zT (n:Nat):aN Tryz.prog hint aG rC n:=
 aN.of (hk:=fun β=>(an.mk [] []).vb [iM] β) (sh:=aG) (D3 _ _) (fun m _=>ab.eG ab.nil (ct.nil.fn j8 (iq _ _)) m) (fun x s=>by kernel_rfl)
noncomputable def jY (D:Nat) (F:Nat->ak [(true,(.cons am am)),(true,(.cons (.cons am am) .bool))]×aF [(64,.cells 314 [.aC (.cons am (.aJ am)),ap,ap,ap,ap,ap] true)]->Option (PR none (ak [(false,.bool)]×aF []))):bm:=⟨315,[(TV.ptr 64 0)],[(true,(.cons am am)),(true,(.cons (.cons am am) .bool))],[(false,.bool)],65,[(64,.cells 314 [.aC (.cons am (.aJ am)),ap,ap,ap,ap,ap] true)],65,[],65,true,none,D,F⟩
theorem M4 (D:Nat) (F):(jY D F).T.ok Tryz.prog hint:=by
 intro p hp;simp only [jY,bm.T,List.mem_cons,List.not_mem_nil,or_false] at hp;rcases hp with rfl
 ·trivial
theorem Jn (D:Nat) (F):(jY D F).T2.ok Tryz.prog hint:=by
 intro p hp;simp only [jY,bm.T2,List.mem_cons,List.not_mem_nil,or_false] at hp
 
noncomputable def Li (n:Nat) (p:gt) (key:(gt×Bool)) (c64_0:bi):Option lw:=
 Option.bind (yk n (p.1,p.2) 58 c64_0) fun y0=>
 bif y0.1.1 then
 none
 else
 Option.bind (Wj n (p.1,p.2) 58 c64_0) fun y1=>
 bif y1.1.1 then
 none
 else
 some ((false,()),())
noncomputable def Hq:bm:=jY 2 (fun n x=>Li n x.1.1 x.1.2.1 x.2.1.1)
theorem QP (n:Nat):aN Tryz.prog hint aG Hq n:=
 aN.of (hk:=fun β=>(an.mk [] []).vb [JB,rC] β) (sh:=aG) (Jn _ _) (fun m _=>ab.eG ab.nil ((ct.nil.fn zT (vU _ _)).fn Sr (K8 _ _)) m) (fun x s=>by kernel_rfl)
noncomputable def fA (D:Nat) (F:Nat->ak []×aF [(64,.cells 314 [ap,ap,.bool,ap,.all 65 3 am .any,ap] true)]->Option (PR none (ak [(false,.bool)]×aF []))):bm:=⟨271,[(TV.ptr 64 0)],[],[(false,.bool)],65,[(64,.cells 314 [ap,ap,.bool,ap,.all 65 3 am .any,ap] true)],66,[],65,true,none,D,F⟩
theorem rb (D:Nat) (F):(fA D F).T.ok Tryz.prog hint:=by
 intro p hp;simp only [fA,bm.T,List.mem_cons,List.not_mem_nil,or_false] at hp;rcases hp with rfl
 ·trivial
theorem zA (D:Nat) (F):(fA D F).T2.ok Tryz.prog hint:=by
 intro p hp;simp only [fA,bm.T2,List.mem_cons,List.not_mem_nil,or_false] at hp
 
noncomputable def vq (_n:Nat) (c64_2:Bool) (c64_4:bv):Option lw:=
 bif c64_2 then
 some ((((len c64_4)==0),()),())
 else
 none
noncomputable def mn:bm:=fA 1 (fun n x=>vq n x.2.1.2.2.1 x.2.1.2.2.2.2.1)
theorem sR (n:Nat):aN Tryz.prog hint aG mn n:=
 aN.of (hk:=fun β=>(an.mk [] []).hk β) (sh:=aG) (zA _ _) (fun m _=>ab.aK ab.nil m) (fun x s=>by kernel_rfl)
noncomputable def jZ (D:Nat) (F:Nat->ak [(false,am)]×aF [(64,.cells 314 [ap,ap,ap,be,.all 65 3 am .any,ap] true)]->Option (PR (some 297) (ak []×aF []))):bm:=⟨316,[(TV.ptr 64 0)],[(false,am)],[],65,[(64,.cells 314 [ap,ap,ap,be,.all 65 3 am .any,ap] true)],66,[],65,true,(some 297),D,F⟩
theorem ND (D:Nat) (F):(jZ D F).T.ok Tryz.prog hint:=by
 intro p hp;simp only [jZ,bm.T,List.mem_cons,List.not_mem_nil,or_false] at hp;rcases hp with rfl
 ·trivial
theorem HR (D:Nat) (F):(jZ D F).T2.ok Tryz.prog hint:=by
 intro p hp;simp only [jZ,bm.T2,List.mem_cons,List.not_mem_nil,or_false] at hp
 
noncomputable def AV (_n:Nat) (within:Int) (c64_3:Int) (c64_4:bv):Option (d9⊕Int):=
 bif (aQ 200 c64_3) then
 none
 else
 bif (aQ 200 (zal ((zal (c64_3+(len c64_4)))+within))) then
 some (.inr 8)
 else
 some (.inl ((()),()))
noncomputable def Hz:bm:=jZ 1 (fun n x=>AV n x.1.1 x.2.1.2.2.2.1 x.2.1.2.2.2.2.1)
theorem OF (n:Nat):aN Tryz.prog hint aG Hz n:=
 aN.of (hk:=fun β=>(an.mk [] []).hk β) (sh:=aG) (HR _ _) (fun m _=>ab.aK ab.nil m) (fun x s=>by kernel_rfl)
set_option maxRecDepth 100000
noncomputable def iE (D:Nat) (F:Nat->ak [(true,(.cons am am)),(false,(.aJ am)),(true,(.cons .str (.cons .str (.cons am am))))]×aF [(64,.cells 314 [.aC (.cons am (.aJ am)),be,.bool,be,.all 65 3 am .any,.all 66 59 fu .any] true)]->Option (PR (some 297) (ak [(true,(.cons am am))]×aF [(64,.cells 314 [.aC (.cons am (.aJ am)),be,.bool,be,.all 65 3 am .any,.all 66 59 fu .any] true)]))):bm:=⟨272,[(TV.ptr 64 0)],[(true,(.cons am am)),(false,(.aJ am)),(true,(.cons .str (.cons .str (.cons am am))))],[(true,(.cons am am))],65,[(64,.cells 314 [.aC (.cons am (.aJ am)),be,.bool,be,.all 65 3 am .any,.all 66 59 fu .any] true)],67,[(64,.cells 314 [.aC (.cons am (.aJ am)),be,.bool,be,.all 65 3 am .any,.all 66 59 fu .any] true)],67,false,(some 297),D,F⟩
theorem HZ (D:Nat) (F):(iE D F).T.ok Tryz.prog hint:=by
 intro p hp;simp only [iE,bm.T,List.mem_cons,List.not_mem_nil,or_false] at hp;rcases hp with rfl
 ·trivial
theorem F4 (D:Nat) (F):(iE D F).T2.ok Tryz.prog hint:=by
 intro p hp;simp only [iE,bm.T2,List.mem_cons,List.not_mem_nil,or_false] at hp;rcases hp with rfl
 ·trivial
noncomputable def tf:Tm:=⟨[(8,.one (.fix (TV.ptr 69 0)))],[(64,.cells 314 [.aC (.cons am (.aJ am)),be,.bool,be,.all 70 3 am .any,.all 71 59 fu .any] true),(67,.cells 293 [be,be] true),(68,.cells 295 [.str,.str,be,be] true),(69,.cells 293 [be,be] true)],70,72,1004⟩
noncomputable def EI:Tm:=⟨[(0,.one (.fix (TV.ptr 64 0))),(2,.one (.aC am)),(5,.one (.fix (TV.ptr 67 0))),(7,.one (.fix (TV.ptr 68 0))),(8,.one (.fix (TV.ptr 69 0))),(9,.one (.fix (TV.raw (Go.Value.slice (Option.none) 0 0))))],[(64,.cells 314 [.aC (.cons am (.aJ am)),be,.bool,be,.all 70 3 am .any,.all 71 59 fu .any] true),(67,.cells 293 [be,be] true),(68,.cells 295 [.str,.str,be,be] true),(69,.cells 293 [be,be] true)],70,72,1004⟩
noncomputable def Qw:Nat->bv->bi->Int->Bool->Int->bv->dz->Int->Int->d7->d7->Int->Int->Int->Int->Option (d9×(i7×(g7×((d7×(d7×g7))×(g7×Unit)))))
 |0,_,_,_,_,_,_,_,_,_,_,_,_,_,_,_=>none
 |n+1,t2,c64_0,c64_1,c64_2,c64_3,c64_4,c64_5,c67_0,c67_1,c68_0,c68_1,c68_2,c68_3,_,_=>
 Option.bind (vq (n+5) c64_2 c64_4) fun y10=>
 Option.bind (X0 (n+1) t2 (!y10.1.1)) fun y11=>
 bif ((aQ 0 y11.1) &&(aQ y11.1 (len t2))) then
 Option.bind (xM (n+5) (c67_0,(zal (c67_1+y11.1))) c64_0) fun y12=>
 bif ((len y12.1.2.1)==0) then
 none
 else
 Option.bind (Ho (n+4) ((List.take ((Int.toNat y11.1) - 0) (List.drop 0 t2)):: [])) fun y13=>
 Option.bind (bytes (n+4) y13.1) fun y14=>
 bif (room (((List.length c64_5)+(List.length (((7:Int),(y14.1,(c68_1,(c68_0,((1:Int),false))))):: [])))*73)) then
 some (((),()),((c64_0,(c64_1,(c64_2,(c64_3,(c64_4,((c64_5++((7,(y14.1,(c68_1,(c68_0,(1,false))))):: [])),())))))),((c67_0,(c67_1,())),((c68_0,(c68_1,(c68_2,(c68_3,())))),((c67_0,((zal (c67_1+y11.1)),())),())))))
 else none
 else none
noncomputable def Bh:aM:=⟨272,2,none,EI,[(.ret,tf)],6,fun n x=>Qw n x.1.2.1 x.2.1.1 x.2.1.2.1 x.2.1.2.2.1 x.2.1.2.2.2.1 x.2.1.2.2.2.2.1 x.2.1.2.2.2.2.2.1 x.2.2.1.1 x.2.2.1.2.1 x.2.2.2.1.1 x.2.2.2.1.2.1 x.2.2.2.1.2.2.1 x.2.2.2.1.2.2.2.1 x.2.2.2.2.1.1 x.2.2.2.2.1.2.1,[],[67,68]⟩
theorem xA:tf.ok Tryz.prog hint:=Tm.dq rfl
theorem sX:EI.ok Tryz.prog hint:=Tm.dq rfl
theorem MU:∀ n,ao Tryz.prog hint aG Bh n:=
 ao.of (hk:=fun β=>(an.mk [E8,ta,Lc] []).vb [qE,mn] β) (sh:=aG) (aL.of (by kernel_rfl)) sX ⟨⟨xA,zai _,zai _⟩,trivial⟩ (fun m=>ab.eG (((ab.nil.fn Ug).fn E7).fn Rj) ((ct.nil.fn sR (rb _ _)).fn yC (rq _ _)) m)
  (fun _=>by kernel_rfl) (fun m x=>by kernel_rfl)
noncomputable def Qa (n:Nat) (p:gt) (l:List Int) (t:(List UInt8×lc)) (c64_0:bi) (c64_1:Int) (c64_2:Bool) (c64_3:Int) (c64_4:bv) (c64_5:dz):Option (((gt×Unit)×(i7×Unit))⊕Int):=
 Option.bind (Qw n l c64_0 c64_1 c64_2 c64_3 c64_4 c64_5 p.1 p.2 t.1 t.2.1 t.2.2.1 t.2.2.2 0 0) fun y15=>
 some (.inl (((y15.2.2.2.2.1.1,y15.2.2.2.2.1.2.1),()),((y15.2.1.1,(y15.2.1.2.1,(y15.2.1.2.2.1,(y15.2.1.2.2.2.1,(y15.2.1.2.2.2.2.1,(y15.2.1.2.2.2.2.2.1,())))))),())))
noncomputable def Bx:bm:=iE 6 (fun n x=>Qa n x.1.1 x.1.2.1 x.1.2.2.1 x.2.1.1 x.2.1.2.1 x.2.1.2.2.1 x.2.1.2.2.2.1 x.2.1.2.2.2.2.1 x.2.1.2.2.2.2.2.1)
theorem Mi (n:Nat):aN Tryz.prog hint aG Bx n:=
 aN.of (hk:=fun β=>(an.mk [] [Bh]).hk β) (sh:=aG) (F4 _ _) (fun m _=>ab.aK (ab.nil.loop MU sX) m) (fun x s=>by kernel_rfl)
set_option maxRecDepth 100000
noncomputable def ez (D:Nat) (F:Nat->ak [(true,(.cons am am))]×aF [(64,.cells 314 [.aC (.cons am (.aJ am)),be,.bool,be,.all 65 3 am .any,.all 66 59 fu .any] true)]->Option (PR (some 297) (ak [(true,(.cons (.cons am am) .bool))]×aF [(64,.cells 314 [.aC (.cons am (.aJ am)),be,.bool,be,.all 65 3 am .any,.all 66 59 fu .any] true)]))):bm:=⟨256,[(TV.ptr 64 0)],[(true,(.cons am am))],[(true,(.cons (.cons am am) .bool))],65,[(64,.cells 314 [.aC (.cons am (.aJ am)),be,.bool,be,.all 65 3 am .any,.all 66 59 fu .any] true)],67,[(64,.cells 314 [.aC (.cons am (.aJ am)),be,.bool,be,.all 65 3 am .any,.all 66 59 fu .any] true)],67,false,(some 297),D,F⟩
theorem sA (D:Nat) (F):(ez D F).T.ok Tryz.prog hint:=by
 intro p hp;simp only [ez,bm.T,List.mem_cons,List.not_mem_nil,or_false] at hp;rcases hp with rfl
 ·trivial
theorem H9 (D:Nat) (F):(ez D F).T2.ok Tryz.prog hint:=by
 intro p hp;simp only [ez,bm.T2,List.mem_cons,List.not_mem_nil,or_false] at hp;rcases hp with rfl
 ·trivial
noncomputable def wv (Fr:Nat->gt->bi->Int->Bool->Int->bv->dz->Option ci):bm:=ez 0 (fun n x=>Fr n x.1.1 x.2.1.1 x.2.1.2.1 x.2.1.2.2.1 x.2.1.2.2.2.1 x.2.1.2.2.2.2.1 x.2.1.2.2.2.2.2.1)
noncomputable def nx:Tm:=⟨[(0,.one (.fix (TV.ptr 64 0))),(8,.one (.fix (TV.ptr 73 0))),(9,ac),(12,.one (.fix (TV.ptr 82 0)))],[(64,.cells 314 [.aC (.cons am (.aJ am)),be,.bool,be,.all 83 3 am .any,.all 84 59 fu .any] true),(73,.cells 293 [be,be] true),(82,.cells 293 [be,be] true)],83,85,1023⟩
noncomputable def l6:Tm:=⟨[(0,ac)],[],83,83,1023⟩
noncomputable def Ha:Tm:=⟨[(0,.one (.fix (TV.ptr 64 0))),(8,.one (.fix (TV.ptr 73 0))),(9,ac),(10,ac),(11,.one (.fix (TV.fn 292 ((TV.ptr 64 0):: []) []))),(12,.one (.fix (TV.ptr 82 0)))],[(64,.cells 314 [.aC (.cons am (.aJ am)),be,.bool,be,.all 83 3 am .any,.all 84 59 fu .any] true),(73,.cells 293 [be,be] true),(82,.cells 293 [be,be] true)],83,85,1023⟩
noncomputable def jA (Fr:Nat->gt->bi->Int->Bool->Int->bv->dz->Option ci):Nat->Int->Int->bi->Int->Bool->Int->bv->dz->Int->Int->Int->Int->Option (((Unit×(Unit×(Int×d9)))×(i7×(g7×(g7×Unit))))⊕mt)
 |0,_,_,_,_,_,_,_,_,_,_,_,_=>none
 |n+1,t9,t10,c64_0,c64_1,c64_2,c64_3,c64_4,c64_5,c73_0,c73_1,c82_0,c82_1=>
 Option.bind (Wj (n+5) (c82_0,c82_1) t10 c64_0) fun y53=>
 bif (!y53.1.1) then
 Option.bind (yk (n+4) (c82_0,c82_1) 63 c64_0) fun y54=>
 bif y54.1.1 then
 none
 else
 Option.bind (Fr (n+5) (c82_0,c82_1) c64_0 c64_1 c64_2 c64_3 c64_4 c64_5) fun y55=>
 match y55 with
  | .inl y56=>
  Option.bind (yE (n+1) (y56.1.1.1.1,y56.1.1.1.2) y56.2.1.1 y56.2.1.2.1) fun y57=>
  match y57 with
   | .inl y58=>
   bif (y56.1.1.1.1 !=c82_0) then
   none
   else
   bif (y58.1.1.1 !=c82_0) then
   none
   else
   bif (aR 1024 (zal (y58.1.1.2 - c82_1))) then
   none
   else
   Option.bind (Li (n+3) (y58.1.1.1,y58.1.1.2) ((y56.1.1.1.1,y56.1.1.1.2),y56.1.1.2) y56.2.1.1) fun y59=>
   bif (!y59.1.1) then
   Option.bind (yE (n+2) (y56.1.1.1.1,y56.1.1.1.2) y56.2.1.1 y56.2.1.2.1) fun y60=>
   match y60 with
    | .inl y61=>
    Option.bind (Wj (n+5) (y61.1.1.1,y61.1.1.2) 44 y56.2.1.1) fun y62=>
    bif (!y62.1.1) then
    Option.bind (Wj (n+5) (y61.1.1.1,y61.1.1.2) t10 y56.2.1.1) fun y63=>
    bif (!y63.1.1) then
    none
    else
    some (.inl (((),((),(t9,((),())))),((y56.2.1.1,(y56.2.1.2.1,(y56.2.1.2.2.1,(y56.2.1.2.2.2.1,(y56.2.1.2.2.2.2.1,(y56.2.1.2.2.2.2.2.1,())))))),((c73_0,(c73_1,())),((y61.1.1.1,(y61.1.1.2,())),())))))
    else
    Option.bind (yE (n+2) (y61.1.1.1,(zal (y61.1.1.2+1))) y56.2.1.1 y56.2.1.2.1) fun y64=>
    match y64 with
     | .inl y65=>
     jA Fr n t9 t10 y56.2.1.1 y56.2.1.2.1 y56.2.1.2.2.1 y56.2.1.2.2.2.1 y56.2.1.2.2.2.2.1 y56.2.1.2.2.2.2.2.1 c73_0 c73_1 y65.1.1.1 y65.1.1.2
     | .inr e66=>
     some (.inr ((e66,()),()))
    | .inr e67=>
    some (.inr ((e67,()),()))
   else
   none
   | .inr e68=>
   some (.inr ((e68,()),()))
  | .inr e69=>
  some (.inr ((e69,()),()))
 else
 some (.inl (((),((),(t9,((),())))),((c64_0,(c64_1,(c64_2,(c64_3,(c64_4,(c64_5,())))))),((c73_0,(c73_1,())),((c82_0,(c82_1,())),())))))
noncomputable def A8 (Fr:Nat->gt->bi->Int->Bool->Int->bv->dz->Option ci):aM:=⟨269,6,none,Ha,[(.exit 0,nx),(.I8 297,l6)],6,fun n x=>jA Fr n x.1.2.2.1 x.1.2.2.2.1 x.2.1.1 x.2.1.2.1 x.2.1.2.2.1 x.2.1.2.2.2.1 x.2.1.2.2.2.2.1 x.2.1.2.2.2.2.2.1 x.2.2.1.1 x.2.2.1.2.1 x.2.2.2.1.1 x.2.2.2.1.2.1,[67,68,69,70,71,72,74,75,76,78,80,81],[73]⟩
theorem rL:nx.ok Tryz.prog hint:=Tm.dq rfl
theorem qb:l6.ok Tryz.prog hint:=Tm.dq rfl
theorem tM:Ha.ok Tryz.prog hint:=Tm.dq rfl
theorem NH (Fr:Nat->gt->bi->Int->Bool->Int->bv->dz->Option ci) (hFr:∀ m,aN Tryz.prog hint aG (wv Fr) m):∀ n,ao Tryz.prog hint aG (A8 Fr) n:=
 ao.of (hk:=fun β=>(an.mk [] []).vb [Hq,ya,(wv Fr),rC,JB] β) (sh:=aG) (aL.of (by kernel_rfl)) tM ⟨⟨rL,zai _,zai _⟩,⟨qb,zai _,zai _⟩,trivial⟩ (fun m=>ab.eG ab.nil (((((ct.nil.fn Sr (K8 _ _)).fn zT (vU _ _)).fn hFr (sA _ _)).fn GC (zY _ _)).fn QP (M4 _ _)) m)
  (fun _=>by kernel_rfl) (fun m x=>by kernel_rfl)
noncomputable def qW (Fr:Nat->gt->bi->Int->Bool->Int->bv->dz->Option ci) (n:Nat) (p:gt) (c64_0:bi) (c64_1:Int) (c64_2:Bool) (c64_3:Int) (c64_4:bv) (c64_5:dz):Option ci:=
 Option.bind (ph (n+2) (p.1,p.2) c64_0 c64_1) fun y0=>
 match y0 with
 | .inl y1=>
 Option.bind (qf (n+6) (y1.1.2.1.1,y1.1.2.1.2) c64_0) fun y2=>
 bif (!y1.1.2.2.1) then
 none
 else
 Option.bind (bif (aR 0 (len y2.1.1)) then
 Option.bind (y2.1.1[0]?) fun x4=>
 some (x4==42)
 else
 none) fun b5=>
 bif b5 then
 none
 else
 Option.bind (bif (aR 0 (len y2.1.1)) then
 Option.bind (y2.1.1[0]?) fun x7=>
 bif (x7==34) then
 none
 else
 Option.bind (y2.1.1[0]?) fun x8=>
 some (x8==39)
 else
 none) fun b9=>
 bif b9 then
 none
 else
 Option.bind (bif (aR 0 (len y2.1.1)) then
 Option.bind (y2.1.1[0]?) fun x11=>
 bif (x11==91) then
 some true
 else
 Option.bind (y2.1.1[0]?) fun x12=>
 some (x12==123)
 else
 none) fun b13=>
 bif b13 then
 Option.bind (y2.1.1[0]?) fun x14=>
 bif (x14==123) then
 none
 else
 Option.bind (AV (n+3) 0 c64_3 c64_4) fun y15=>
 match y15 with
  | .inl _=>
  bif (room (((List.length c64_5)+(List.length (((3:Int),(([]:List UInt8),(y1.1.1.2.1,(y1.1.1.1,((0:Int),true))))):: [])))*73)) then
  bif (room (((List.length c64_4)+(List.length (3::([]:List Int))))*9)) then
  Option.bind (yE (n+1) (y1.1.2.1.1,(zal (y1.1.2.1.2+1))) c64_0 c64_1) fun y17=>
  match y17 with
   | .inl y18=>
   Option.bind (jA Fr n 3 93 c64_0 c64_1 c64_2 c64_3 (c64_4++(3::([]:List Int))) (c64_5++((3,(([]:List UInt8),(y1.1.1.2.1,(y1.1.1.1,(0,true))))):: [])) 0 0 y18.1.1.1 y18.1.1.2) fun y70=>
   match y70 with
    | .inl y71=>
    bif (room (((List.length y71.2.1.2.2.2.2.2.1)+(List.length (((zal (y71.1.2.2.1+(1:Int))),(([]:List UInt8),(([]:List UInt8),(([]:List UInt8),((0:Int),false))))):: [])))*73)) then
    bif ((aQ 0 (zal ((len y71.2.1.2.2.2.2.1) - 1))) &&(aQ (zal ((len y71.2.1.2.2.2.2.1) - 1)) (len y71.2.1.2.2.2.2.1))) then
    some (.inl ((((y71.2.2.2.1.1,(zal (y71.2.2.2.1.2.1+1))),true),()),((y71.2.1.1,(y71.2.1.2.1,(y71.2.1.2.2.1,(y71.2.1.2.2.2.1,((List.take ((Int.toNat (zal ((len y71.2.1.2.2.2.2.1) - 1))) - 0) (List.drop 0 y71.2.1.2.2.2.2.1)),((y71.2.1.2.2.2.2.2.1++(((zal (y71.1.2.2.1+1)),(([]:List UInt8),(([]:List UInt8),(([]:List UInt8),(0,false))))):: [])),())))))),())))
    else none
    else none
    | .inr y72=>
    some (.inr y72.1.1)
   | .inr e73=>
   some (.inr e73)
  else none
  else none
  | .inr e74=>
  some (.inr e74)
 else
 bif (aR 0 (len y2.1.1)) then
 Option.bind (vq (n+5) c64_2 c64_4) fun y75=>
 Option.bind (OY (n+1) y2.1.1 (!y75.1.1)) fun y76=>
 bif y76.1 then
 Option.bind (Qa n (y1.1.2.1.1,y1.1.2.1.2) y2.1.1 (y1.1.1.1,(y1.1.1.2.1,(y1.1.1.2.2.1,y1.1.1.2.2.2))) c64_0 c64_1 c64_2 c64_3 c64_4 c64_5) fun y77=>
 match y77 with
  | .inl y78=>
  some (.inl ((((y78.1.1.1,y78.1.1.2),false),()),((y78.2.1.1,(y78.2.1.2.1,(y78.2.1.2.2.1,(y78.2.1.2.2.2.1,(y78.2.1.2.2.2.2.1,(y78.2.1.2.2.2.2.2.1,())))))),())))
  | .inr e79=>
  some (.inr e79)
 else
 none
 else
 none
 | .inr e80=>
 some (.inr e80)
noncomputable def Oa (Fr:Nat->gt->bi->Int->Bool->Int->bv->dz->Option ci):bm:=ez 7 (fun n x=>qW Fr n x.1.1 x.2.1.1 x.2.1.2.1 x.2.1.2.2.1 x.2.1.2.2.2.1 x.2.1.2.2.2.2.1 x.2.1.2.2.2.2.2.1)
theorem Mm (Fr:Nat->gt->bi->Int->Bool->Int->bv->dz->Option ci) (hFr:∀ m,aN Tryz.prog hint aG (wv Fr) m) (n:Nat):aN Tryz.prog hint aG (Oa Fr) n:=
 aN.of (hk:=fun β=>(an.mk [Bf] [(A8 Fr)]).vb [Bx,mn,ya,Hz,iM,ox] β) (sh:=aG) (H9 _ _) (fun m _=>ab.eG ((ab.nil.loop (NH Fr hFr) tM).fn Nk) ((((((ct.nil.fn wz (tU _ _)).fn j8 (iq _ _)).fn OF (ND _ _)).fn GC (zY _ _)).fn sR (rb _ _)).fn Mi (HZ _ _)) m) (fun x s=>by kernel_rfl)
noncomputable def dD:Nat->Nat->gt->bi->Int->Bool->Int->bv->dz->Option ci
 |0,_,_,_,_,_,_,_,_=>none
 |d+1,n,p,c64_0,c64_1,c64_2,c64_3,c64_4,c64_5=>bif Nat.ble 7 n then qW (dD d) (n - 7) p c64_0 c64_1 c64_2 c64_3 c64_4 c64_5 else none
noncomputable def qB (n:Nat) (p:gt) (c64_0:bi) (c64_1:Int) (c64_2:Bool) (c64_3:Int) (c64_4:bv) (c64_5:dz):Option ci:=dD n n p c64_0 c64_1 c64_2 c64_3 c64_4 c64_5
noncomputable def xZ:bm:=ez 0 (fun n x=>qB n x.1.1 x.2.1.1 x.2.1.2.1 x.2.1.2.2.1 x.2.1.2.2.2.1 x.2.1.2.2.2.2.1 x.2.1.2.2.2.2.2.1)
theorem ET (n:Nat):aN Tryz.prog hint aG xZ n:=
 aN.diag (it:=ez 0 fun _ _=>none) (fun d n x=>dD d n x.1.1 x.2.1.1 x.2.1.2.1 x.2.1.2.2.1 x.2.1.2.2.2.1 x.2.1.2.2.2.2.1 x.2.1.2.2.2.2.2.1) (aN.Cc (it:=ez 0 fun _ _=>none) (D:=7) (fun G n x=>qW (fun n p c64_0 c64_1 c64_2 c64_3 c64_4 c64_5=>G n ((p,()),((c64_0,(c64_1,(c64_2,(c64_3,(c64_4,(c64_5,())))))),()))) n x.1.1 x.2.1.1 x.2.1.2.1 x.2.1.2.2.1 x.2.1.2.2.2.1 x.2.1.2.2.2.2.1 x.2.1.2.2.2.2.2.1) _ (fun _ _=>rfl) (fun _ _ _=>rfl) (fun G h n=>Mm (fun n p c64_0 c64_1 c64_2 c64_3 c64_4 c64_5=>G n ((p,()),((c64_0,(c64_1,(c64_2,(c64_3,(c64_4,(c64_5,())))))),()))) h n)) n
set_option maxRecDepth 100000
noncomputable def l7 (D:Nat) (F:Nat->ak [(false,am),(false,am)]×aF [(64,.cells 229 [.aC (.cons am (.aJ am))] true)]->Option (PR none (ak [(false,am),(false,.bool)]×aF []))):bm:=⟨233,[(TV.ptr 64 0)],[(false,am),(false,am)],[(false,am),(false,.bool)],65,[(64,.cells 229 [.aC (.cons am (.aJ am))] true)],65,[],65,true,none,D,F⟩
theorem QA (D:Nat) (F):(l7 D F).T.ok Tryz.prog hint:=by
 intro p hp;simp only [l7,bm.T,List.mem_cons,List.not_mem_nil,or_false] at hp;rcases hp with rfl
 ·trivial
theorem N5 (D:Nat) (F):(l7 D F).T2.ok Tryz.prog hint:=by
 intro p hp;simp only [l7,bm.T2,List.mem_cons,List.not_mem_nil,or_false] at hp
 
noncomputable def Ud (n:Nat) (line:Int) (column:Int) (c64_0:bi):Option ((Int×d8)×Unit):=
 Option.bind (bif (aQ 0 line) then
 some (aR line (len c64_0))
 else
 none) fun b1=>
 bif b1 then
 bif ((aQ 0 (zal (line+1))) &&(aQ (zal (line+1)) (len c64_0))) then
 bif ((aQ 0 line) &&(aQ line (((Int.toNat (zal (line+1))):Nat):Int))) then
 Option.bind (qf (n+1) (0,column) (List.take ((Int.toNat (zal (line+1))) - (Int.toNat line)) (List.drop (Int.toNat line) c64_0))) fun y2=>
 bif ((len y2.1.1)==0) then
 none
 else
 Option.bind (y2.1.1[0]?) fun x3=>
 Option.bind (blank (n+1) x3) fun y4=>
 bif y4.1 then
 none
 else
 Option.bind (qB n (0,column) (List.take ((Int.toNat (zal (line+1))) - (Int.toNat line)) (List.drop (Int.toNat line) c64_0)) (-1) true 0 ([]:List Int) []) fun y5=>
 match y5 with
 | .inl y6=>
 Option.bind (xM n (y6.1.1.1.1,y6.1.1.1.2) y6.2.1.1) fun y7=>
 bif ((len y7.1.2.1)==0) then
 some ((0,false,()),())
 else
 none
 | .inr e8=>
 bif (e8 !=0) then
 some ((0,false,()),())
 else
 none
 else none
 else none
 else
 none
noncomputable def Ku:bm:=l7 2 (fun n x=>Ud n x.1.1 x.1.2.1 x.2.1.1)
theorem TY (n:Nat):aN Tryz.prog hint aG Ku n:=
 aN.of (hk:=fun β=>(an.mk [fL] []).vb [qE,xZ,iM] β) (sh:=aG) (N5 _ _) (fun m _=>ab.eG (ab.nil.fn gw) (((ct.nil.fn j8 (iq _ _)).fn ET (sA _ _)).fn yC (rq _ _)) m) (fun x s=>by kernel_rfl)
noncomputable def iK (D:Nat) (F:Nat->ak [(false,am),(false,am),(false,am),(false,am)]×aF [(64,.cells 229 [.aC (.cons am (.aJ am))] true)]->Option (PR none (ak [(false,(.aJ fu)),(false,am),(false,am),(false,am)]×aF []))):bm:=⟨242,[(TV.ptr 64 0)],[(false,am),(false,am),(false,am),(false,am)],[(false,(.aJ fu)),(false,am),(false,am),(false,am)],65,[(64,.cells 229 [.aC (.cons am (.aJ am))] true)],65,[],65,true,none,D,F⟩
theorem JF (D:Nat) (F):(iK D F).T.ok Tryz.prog hint:=by
 intro p hp;simp only [iK,bm.T,List.mem_cons,List.not_mem_nil,or_false] at hp;rcases hp with rfl
 ·trivial
theorem GM (D:Nat) (F):(iK D F).T2.ok Tryz.prog hint:=by
 intro p hp;simp only [iK,bm.T2,List.mem_cons,List.not_mem_nil,or_false] at hp
 
noncomputable def Cz (n:Nat) (line:Int) (column:Int) (m:Int) (deep:Int) (c64_0:bi):Option ((dz×(Int×g7))×Unit):=
 bif (aR line 0) then
 none
 else
 bif (aQ (len c64_0) line) then
 none
 else
 bif (aR column 0) then
 none
 else
 Option.bind (qB n (line,column) c64_0 m true deep ([]:List Int) []) fun y0=>
 match y0 with
 | .inl y1=>
 some ((y1.2.1.2.2.2.2.2.1,y1.1.1.1.1,y1.1.1.1.2,0,()),())
 | .inr e2=>
 bif (e2 !=0) then
 some (([],0,0,e2,()),())
 else
 none
noncomputable def BE:bm:=iK 3 (fun n x=>Cz n x.1.1 x.1.2.1 x.1.2.2.1 x.1.2.2.2.1 x.2.1.1)
theorem MS (n:Nat):aN Tryz.prog hint aG BE n:=
 aN.of (hk:=fun β=>(an.mk [] []).vb [xZ] β) (sh:=aG) (GM _ _) (fun m _=>ab.eG ab.nil (ct.nil.fn ET (sA _ _)) m) (fun x s=>by kernel_rfl)
noncomputable def gG (D:Nat) (F:Nat->ak [(false,am),(false,am)]×aF [(64,.cells 229 [.aC (.cons am (.aJ am))] true)]->Option (PR none (ak [(true,(.cons .str .str)),(false,am),(false,am)]×aF []))):bm:=⟨214,[(TV.ptr 64 0)],[(false,am),(false,am)],[(true,(.cons .str .str)),(false,am),(false,am)],65,[(64,.cells 229 [.aC (.cons am (.aJ am))] true)],65,[],65,true,none,D,F⟩
theorem EU (D:Nat) (F):(gG D F).T.ok Tryz.prog hint:=by
 intro p hp;simp only [gG,bm.T,List.mem_cons,List.not_mem_nil,or_false] at hp;rcases hp with rfl
 ·trivial
theorem Dp (D:Nat) (F):(gG D F).T2.ok Tryz.prog hint:=by
 intro p hp;simp only [gG,bm.T2,List.mem_cons,List.not_mem_nil,or_false] at hp
 
noncomputable def vc (n:Nat) (line:Int) (column:Int) (c64_0:bi):Option ((gc×g7)×Unit):=
 Option.bind (bif (aQ 0 line) then
 some (aR line (len c64_0))
 else
 none) fun b1=>
 bif b1 then
 bif ((aQ 0 (zal (line+1))) &&(aQ (zal (line+1)) (len c64_0))) then
 bif ((aQ 0 line) &&(aQ line (((Int.toNat (zal (line+1))):Nat):Int))) then
 Option.bind (ph n (0,column) (List.take ((Int.toNat (zal (line+1))) - (Int.toNat line)) (List.drop (Int.toNat line) c64_0)) (-1)) fun y2=>
 match y2 with
 | .inl y3=>
 Option.bind (bif (!(y3.1.1.1==([]:List UInt8))) then
 none
 else
 some (!(y3.1.1.2.1==([]:List UInt8)))) fun b5=>
 bif (!b5) then
 some (((y3.1.1.1,y3.1.1.2.1),column,0,()),())
 else
 none
 | .inr e6=>
 none
 else none
 else none
 else
 none
noncomputable def xQ:bm:=gG 6 (fun n x=>vc n x.1.1 x.1.2.1 x.2.1.1)
theorem IF (n:Nat):aN Tryz.prog hint aG xQ n:=
 aN.of (hk:=fun β=>(an.mk [] []).vb [ox] β) (sh:=aG) (Dp _ _) (fun m _=>ab.eG ab.nil (ct.nil.fn wz (tU _ _)) m) (fun x s=>by kernel_rfl)
set_option maxRecDepth 100000
noncomputable def ki (D:Nat) (F:Nat->ak [(false,am),(false,am)]×aF [(64,.cells 201 [.aC (.cons am (.aJ am)),ap,ap,ap] true)]->Option (PR none (ak [(false,(.aJ am)),(false,am)]×aF []))):bm:=⟨207,[(TV.ptr 64 0)],[(false,am),(false,am)],[(false,(.aJ am)),(false,am)],65,[(64,.cells 201 [.aC (.cons am (.aJ am)),ap,ap,ap] true)],65,[],65,true,none,D,F⟩
theorem rG (D:Nat) (F):(ki D F).T.ok Tryz.prog hint:=by
 intro p hp;simp only [ki,bm.T,List.mem_cons,List.not_mem_nil,or_false] at hp;rcases hp with rfl
 ·trivial
theorem Ix (D:Nat) (F):(ki D F).T2.ok Tryz.prog hint:=by
 intro p hp;simp only [ki,bm.T2,List.mem_cons,List.not_mem_nil,or_false] at hp
 
noncomputable def nY:Tm:=⟨[(0,.one (.fix (TV.ptr 64 0))),(1,ac),(2,ac),(9,.one (.aC am)),(10,ac)],[(64,.cells 201 [.aC (.cons am (.aJ am)),ap,ap,ap] true)],66,66,1003⟩
noncomputable def FZ:Tm:=⟨[(0,.one (.fix (TV.ptr 64 0))),(1,ac),(2,ac),(9,.one (.aC am)),(10,ac)],[(64,.cells 201 [.aC (.cons am (.aJ am)),ap,ap,ap] true)],66,66,1003⟩
noncomputable def rN:Nat->Int->Int->bv->Int->bi->Option ((Unit×(Int×(Int×(bv×dg))))×((bi×md)×Unit))
 |0,_,_,_,_,_=>none
 |n+1,t1,t2,t9,t10,c64_0=>
 bif (aR 0 (len t9)) then
 Option.bind (t9[0]?) fun x5=>
 Option.bind (blank (n+1) x5) fun y6=>
 bif y6.1 then
 bif (aQ 1 (len t9)) then
 rN n t1 (zal (t2+1)) (List.take ((List.length t9) - 1) (List.drop 1 t9)) t10 c64_0
 else none
 else
 some (((),(t1,(t2,(t9,(t10,()))))),((c64_0,((),((),((),())))),()))
 else
 some (((),(t1,(t2,(t9,(t10,()))))),((c64_0,((),((),((),())))),()))
noncomputable def AR:aM:=⟨207,5,none,FZ,[(.exit 0,nY)],1,fun n x=>rN n x.1.2.1 x.1.2.2.1 x.1.2.2.2.1 x.1.2.2.2.2.1 x.2.1.1,[65],[64]⟩
theorem rM:nY.ok Tryz.prog hint:=Tm.dq rfl
theorem tO:FZ.ok Tryz.prog hint:=Tm.dq rfl
theorem Na:∀ n,ao Tryz.prog hint aG AR n:=
 ao.of (hk:=fun β=>(an.mk [fL] []).hk β) (sh:=aG) (aL.of (by kernel_rfl)) tO ⟨⟨rM,zai _,zai _⟩,trivial⟩ (fun m=>ab.aK (ab.nil.fn gw) m)
  (fun _=>by kernel_rfl) (fun m x=>by kernel_rfl)
noncomputable def qu (n:Nat) (line:Int) (column:Int) (c64_0:bi):Option ((bv×dg)×Unit):=
 bif (aQ 0 line) then
 Option.bind (c64_0[(Int.toNat line)]?) fun x0=>
 bif ((aQ 0 (bif (aR (len x0.2) (zal ((bif (aR column x0.1) then x0.1 else column) - x0.1))) then (len x0.2) else (zal ((bif (aR column x0.1) then x0.1 else column) - x0.1)))) &&(aQ (bif (aR (len x0.2) (zal ((bif (aR column x0.1) then x0.1 else column) - x0.1))) then (len x0.2) else (zal ((bif (aR column x0.1) then x0.1 else column) - x0.1))) (len x0.2))) then
 Option.bind (rN n line (bif (aR column x0.1) then x0.1 else column) (List.take ((List.length x0.2) - (Int.toNat (bif (aR (len x0.2) (zal ((bif (aR column x0.1) then x0.1 else column) - x0.1))) then (len x0.2) else (zal ((bif (aR column x0.1) then x0.1 else column) - x0.1))))) (List.drop (Int.toNat (bif (aR (len x0.2) (zal ((bif (aR column x0.1) then x0.1 else column) - x0.1))) then (len x0.2) else (zal ((bif (aR column x0.1) then x0.1 else column) - x0.1)))) x0.2)) (bif (aR column x0.1) then x0.1 else column) c64_0) fun y7=>
 bif (aR 0 (len y7.1.2.2.2.1)) then
 Option.bind (y7.1.2.2.2.1[0]?) fun x8=>
 bif (x8==35) then
 none
 else
 some ((y7.1.2.2.2.1,y7.1.2.2.1,()),())
 else
 some ((y7.1.2.2.2.1,y7.1.2.2.1,()),())
 else none
 else none
noncomputable def qD:bm:=ki 1 (fun n x=>qu n x.1.1 x.1.2.1 x.2.1.1)
theorem vI (n:Nat):aN Tryz.prog hint aG qD n:=
 aN.of (hk:=fun β=>(an.mk [] [AR]).hk β) (sh:=aG) (Ix _ _) (fun m _=>ab.aK (ab.nil.loop Na tO) m) (fun x s=>by kernel_rfl)
noncomputable def jI (D:Nat) (F:Nat->ak [(false,am),(false,am),(false,am)]×aF [(64,.cells 201 [.aC (.cons am (.aJ am)),ap,ap,ap] true)]->Option (PR none (ak [(false,.bool)]×aF []))):bm:=⟨208,[(TV.ptr 64 0)],[(false,am),(false,am),(false,am)],[(false,.bool)],65,[(64,.cells 201 [.aC (.cons am (.aJ am)),ap,ap,ap] true)],65,[],65,true,none,D,F⟩
theorem Az (D:Nat) (F):(jI D F).T.ok Tryz.prog hint:=by
 intro p hp;simp only [jI,bm.T,List.mem_cons,List.not_mem_nil,or_false] at hp;rcases hp with rfl
 ·trivial
theorem HJ (D:Nat) (F):(jI D F).T2.ok Tryz.prog hint:=by
 intro p hp;simp only [jI,bm.T2,List.mem_cons,List.not_mem_nil,or_false] at hp
 
noncomputable def xI (n:Nat) (line:Int) (column:Int) (c:Int) (c64_0:bi):Option lw:=
 bif (aQ 0 line) then
 Option.bind (c64_0[(Int.toNat line)]?) fun x0=>
 bif (aQ 0 (zal (column - x0.1))) then
 bif (aR (zal (column - x0.1)) (len x0.2)) then
 bif (aQ 0 (zal (column - x0.1))) then
 Option.bind (x0.2[(Int.toNat (zal (column - x0.1)))]?) fun x1=>
 bif (x1==c) then
 bif ((zal ((zal (column - x0.1))+1))==(len x0.2)) then
 some ((true,()),())
 else
 bif (aQ 0 (zal ((zal (column - x0.1))+1))) then
 Option.bind (x0.2[(Int.toNat (zal ((zal (column - x0.1))+1)))]?) fun x2=>
 Option.bind (blank n x2) fun y3=>
 some ((y3.1,()),())
 else none
 else
 some ((false,()),())
 else none
 else
 none
 else
 none
 else none
noncomputable def vS:bm:=jI 1 (fun n x=>xI n x.1.1 x.1.2.1 x.1.2.2.1 x.2.1.1)
theorem HB (n:Nat):aN Tryz.prog hint aG vS n:=
 aN.of (hk:=fun β=>(an.mk [fL] []).hk β) (sh:=aG) (HJ _ _) (fun m _=>ab.aK (ab.nil.fn gw) m) (fun x s=>by kernel_rfl)
noncomputable def j0 (D:Nat) (F:Nat->ak [(false,am)]×aF [(64,.cells 201 [.aC (.cons am (.aJ am)),ap,ap,ap] true)]->Option (PR (some 231) (ak [(false,am),(false,.bool)]×aF []))):bm:=⟨192,[(TV.ptr 64 0)],[(false,am)],[(false,am),(false,.bool)],65,[(64,.cells 201 [.aC (.cons am (.aJ am)),ap,ap,ap] true)],65,[],65,true,(some 231),D,F⟩
theorem rD (D:Nat) (F):(j0 D F).T.ok Tryz.prog hint:=by
 intro p hp;simp only [j0,bm.T,List.mem_cons,List.not_mem_nil,or_false] at hp;rcases hp with rfl
 ·trivial
theorem JU (D:Nat) (F):(j0 D F).T2.ok Tryz.prog hint:=by
 intro p hp;simp only [j0,bm.T2,List.mem_cons,List.not_mem_nil,or_false] at hp
 
noncomputable def nW:Tm:=⟨[(0,.one (.fix (TV.ptr 64 0))),(1,ac)],[(64,.cells 201 [.aC (.cons am (.aJ am)),ap,ap,ap] true)],65,65,1001⟩
noncomputable def Eh:Tm:=⟨[(0,.one (.fix (TV.ptr 64 0))),(1,ac)],[(64,.cells 201 [.aC (.cons am (.aJ am)),ap,ap,ap] true)],65,65,1001⟩
noncomputable def HV:Nat->Int->bi->Option ((Unit×dg)×((bi×md)×Unit))
 |0,_,_=>none
 |_+1,t1,c64_0=>
 bif (aR t1 (len c64_0)) then
 none
 else
 some (((),(t1,())),((c64_0,((),((),((),())))),()))
noncomputable def A0:aM:=⟨192,1,none,Eh,[(.exit 0,nW)],0,fun n x=>HV n x.1.2.1 x.2.1.1,[],[64]⟩
theorem rO:nW.ok Tryz.prog hint:=Tm.dq rfl
theorem sU:Eh.ok Tryz.prog hint:=Tm.dq rfl
theorem No:∀ n,ao Tryz.prog hint aG A0 n:=
 ao.of (hk:=fun β=>(an.mk [] []).hk β) (sh:=aG) (aL.of (by kernel_rfl)) sU ⟨⟨rO,zai _,zai _⟩,trivial⟩ (fun m=>ab.aK ab.nil m)
  (fun _=>by kernel_rfl) (fun m x=>by kernel_rfl)
noncomputable def zW (n:Nat) (line:Int) (c64_0:bi):Option (((Int×d8)×Unit)⊕Int):=
 Option.bind (HV (n+2) line c64_0) fun y0=>
 bif (y0.1.2.1==(len c64_0)) then
 some (.inl ((y0.1.2.1,false,()),()))
 else
 bif (aQ 0 y0.1.2.1) then
 Option.bind (c64_0[(Int.toNat y0.1.2.1)]?) fun x1=>
 Option.bind (oA n (x1.1,x1.2)) fun y2=>
 bif (y2.1 !=0) then
 some (.inl ((y0.1.2.1,false,()),()))
 else
 bif (aQ 0 y0.1.2.1) then
 Option.bind (c64_0[(Int.toNat y0.1.2.1)]?) fun x3=>
 Option.bind (x3.2[0]?) fun x4=>
 bif (x4==9) then
 some (.inr 5)
 else
 some (.inl ((y0.1.2.1,true,()),()))
 else none
 else none
noncomputable def qV:bm:=j0 2 (fun n x=>zW n x.1.1 x.2.1.1)
theorem xz (n:Nat):aN Tryz.prog hint aG qV n:=
 aN.of (hk:=fun β=>(an.mk [jP] [A0]).hk β) (sh:=aG) (JU _ _) (fun m _=>ab.aK ((ab.nil.loop No sU).fn nj) m) (fun x s=>by kernel_rfl)
noncomputable def gL (D:Nat) (F:Nat->ak [(false,am),(false,am)]×aF [(64,.cells 201 [.aC (.cons am (.aJ am)),ap,ap,ap] true)]->Option (PR (some 231) (ak [(false,am)]×aF []))):bm:=⟨243,[(TV.ptr 64 0)],[(false,am),(false,am)],[(false,am)],65,[(64,.cells 201 [.aC (.cons am (.aJ am)),ap,ap,ap] true)],65,[],65,true,(some 231),D,F⟩
theorem F6 (D:Nat) (F):(gL D F).T.ok Tryz.prog hint:=by
 intro p hp;simp only [gL,bm.T,List.mem_cons,List.not_mem_nil,or_false] at hp;rcases hp with rfl
 ·trivial
theorem Ds (D:Nat) (F):(gL D F).T2.ok Tryz.prog hint:=by
 intro p hp;simp only [gL,bm.T2,List.mem_cons,List.not_mem_nil,or_false] at hp
 
noncomputable def u9 (n:Nat) (line:Int) (column:Int) (c64_0:bi):Option (mt⊕Int):=
 Option.bind (qu n line column c64_0) fun y0=>
 bif (!((len y0.1.1)==0)) then
 none
 else
 some (.inl (((zal (line+1)),()),()))
noncomputable def xN:bm:=gL 2 (fun n x=>u9 n x.1.1 x.1.2.1 x.2.1.1)
theorem Ip (n:Nat):aN Tryz.prog hint aG xN n:=
 aN.of (hk:=fun β=>(an.mk [] []).vb [qD] β) (sh:=aG) (Ds _ _) (fun m _=>ab.eG ab.nil (ct.nil.fn vI (rG _ _)) m) (fun x s=>by kernel_rfl)
noncomputable def fI (D:Nat) (F:Nat->ak [(false,am),(false,am)]×aF [(64,.cells 201 [.aC (.cons am (.aJ am)),ap,ap,ap] true)]->Option (PR (some 231) (ak [(false,am),(false,.bool)]×aF []))):bm:=⟨231,[(TV.ptr 64 0)],[(false,am),(false,am)],[(false,am),(false,.bool)],65,[(64,.cells 201 [.aC (.cons am (.aJ am)),ap,ap,ap] true)],65,[],65,true,(some 231),D,F⟩
theorem BP (D:Nat) (F):(fI D F).T.ok Tryz.prog hint:=by
 intro p hp;simp only [fI,bm.T,List.mem_cons,List.not_mem_nil,or_false] at hp;rcases hp with rfl
 ·trivial
theorem ze (D:Nat) (F):(fI D F).T2.ok Tryz.prog hint:=by
 intro p hp;simp only [fI,bm.T2,List.mem_cons,List.not_mem_nil,or_false] at hp
 
noncomputable def qx (n:Nat) (line:Int) (_column:Int) (c64_0:bi):Option (((Int×d8)×Unit)⊕Int):=
 Option.bind (zW n line c64_0) fun y0=>
 match y0 with
 | .inl y1=>
 bif (!y1.1.2.1) then
 some (.inl ((line,false,()),()))
 else
 none
 | .inr e2=>
 some (.inr e2)
noncomputable def sW:bm:=fI 3 (fun n x=>qx n x.1.1 x.1.2.1 x.2.1.1)
theorem Gb (n:Nat):aN Tryz.prog hint aG sW n:=
 aN.of (hk:=fun β=>(an.mk [] []).vb [qV] β) (sh:=aG) (ze _ _) (fun m _=>ab.eG ab.nil (ct.nil.fn xz (rD _ _)) m) (fun x s=>by kernel_rfl)
noncomputable def kl (D:Nat) (F:Nat->ak [(false,am),(false,am)]×aF [(64,.cells 201 [.aC (.cons am (.aJ am)),.fix (TV.ptr 65 0),ap,ap] true),(65,.cells 229 [.aC (.cons am (.aJ am))] true)]->Option (PR none (ak [(false,.bool)]×aF []))):bm:=⟨212,[(TV.ptr 64 0)],[(false,am),(false,am)],[(false,.bool)],66,[(64,.cells 201 [.aC (.cons am (.aJ am)),.fix (TV.ptr 65 0),ap,ap] true),(65,.cells 229 [.aC (.cons am (.aJ am))] true)],66,[],66,true,none,D,F⟩
theorem M7 (D:Nat) (F):(kl D F).T.ok Tryz.prog hint:=by
 intro p hp;simp only [kl,bm.T,List.mem_cons,List.not_mem_nil,or_false] at hp;rcases hp with rfl |rfl
 ·trivial
 ·trivial
theorem JT (D:Nat) (F):(kl D F).T2.ok Tryz.prog hint:=by
 intro p hp;simp only [kl,bm.T2,List.mem_cons,List.not_mem_nil,or_false] at hp
 
noncomputable def K3 (n:Nat) (line:Int) (column:Int) (c64_0:bi) (c65_0:bi):Option lw:=
 Option.bind (xI (n+1) line column 63 c64_0) fun y0=>
 bif y0.1.1 then
 none
 else
 Option.bind (Ud n line column c65_0) fun y1=>
 some ((y1.1.2.1,()),())
noncomputable def Fy:bm:=kl 3 (fun n x=>K3 n x.1.1 x.1.2.1 x.2.1.1 x.2.2.1.1)
theorem Ot (n:Nat):aN Tryz.prog hint aG Fy n:=
 aN.of (hk:=fun β=>(an.mk [] []).vb [Ku,vS] β) (sh:=aG) (JT _ _) (fun m _=>ab.eG ab.nil ((ct.nil.fn HB (Az _ _)).fn TY (QA _ _)) m) (fun x s=>by kernel_rfl)
noncomputable def jK (D:Nat) (F:Nat->ak [(false,am),(false,am),(false,am),(true,(.cons .str .str))]×aF [(64,.cells 201 [.aC (.cons am (.aJ am)),.fix (TV.ptr 65 0),.all 66 3 am .any,.all 67 59 fu .any] true),(65,.cells 229 [.aC (.cons am (.aJ am))] true)]->Option (PR (some 231) (ak [(false,am)]×aF [(64,.cells 201 [.aC (.cons am (.aJ am)),.fix (TV.ptr 65 0),.all 66 3 am .any,.all 67 59 fu .any] true),(65,.cells 229 [.aC (.cons am (.aJ am))] true)]))):bm:=⟨217,[(TV.ptr 64 0)],[(false,am),(false,am),(false,am),(true,(.cons .str .str))],[(false,am)],66,[(64,.cells 201 [.aC (.cons am (.aJ am)),.fix (TV.ptr 65 0),.all 66 3 am .any,.all 67 59 fu .any] true),(65,.cells 229 [.aC (.cons am (.aJ am))] true)],68,[(64,.cells 201 [.aC (.cons am (.aJ am)),.fix (TV.ptr 65 0),.all 66 3 am .any,.all 67 59 fu .any] true),(65,.cells 229 [.aC (.cons am (.aJ am))] true)],68,false,(some 231),D,F⟩
theorem N2 (D:Nat) (F):(jK D F).T.ok Tryz.prog hint:=by
 intro p hp;simp only [jK,bm.T,List.mem_cons,List.not_mem_nil,or_false] at hp;rcases hp with rfl |rfl
 ·trivial
 ·trivial
theorem JI (D:Nat) (F):(jK D F).T2.ok Tryz.prog hint:=by
 intro p hp;simp only [jK,bm.T2,List.mem_cons,List.not_mem_nil,or_false] at hp;rcases hp with rfl |rfl
 ·trivial
 ·trivial
noncomputable def Ey (n:Nat) (line:Int) (column:Int) (m:Int) (t:gc) (c64_0:bi) (c64_2:bv) (c64_3:dz) (c65_0:bi):Option ce:=
 Option.bind (qu (n+2) line column c64_0) fun y0=>
 Option.bind (Option.bind (y0.1.1[0]?) fun x2=>
 bif (x2==124) then
 none
 else
 Option.bind (y0.1.1[0]?) fun x3=>
 some (x3==62)) fun b4=>
 bif b4 then
 none
 else
 Option.bind (Cz n line y0.1.2.1 m (len c64_2) c65_0) fun y5=>
 bif (y5.1.2.2.2.1 !=0) then
 some (.inr y5.1.2.2.2.1)
 else
 Option.bind (y5.1.1[0]?) fun x6=>
 bif (x6.1 !=8) then
 bif (!((t.1==([]:List UInt8)) &&((t.2==([]:List UInt8)) &&true))) then
 none
 else
 bif (room (((List.length c64_3)+(List.length y5.1.1))*73)) then
 Option.bind (u9 (n+1) y5.1.2.1 y5.1.2.2.1 c64_0) fun y7=>
 match y7 with
 | .inl y8=>
 some (.inl ((y8.1.1,()),((c64_0,((),(c64_2,((c64_3++y5.1.1),())))),((c65_0,()),()))))
 | .inr e9=>
 some (.inr e9)
 else none
 else
 none
noncomputable def FR:bm:=jK 4 (fun n x=>Ey n x.1.1 x.1.2.1 x.1.2.2.1 x.1.2.2.2.1 x.2.1.1 x.2.1.2.2.1 x.2.1.2.2.2.1 x.2.2.1.1)
theorem OW (n:Nat):aN Tryz.prog hint aG FR n:=
 aN.of (hk:=fun β=>(an.mk [] []).vb [xN,BE,qD] β) (sh:=aG) (JI _ _) (fun m _=>ab.eG ab.nil (((ct.nil.fn vI (rG _ _)).fn MS (JF _ _)).fn Ip (F6 _ _)) m) (fun x s=>by kernel_rfl)
noncomputable def er (D:Nat) (F:Nat->ak [(false,am),(false,am),(true,(.cons am (.cons .bool .bool))),(true,(.cons .str .str))]×aF [(64,.cells 201 [.aC (.cons am (.aJ am)),.fix (TV.ptr 65 0),.all 66 3 am .any,.all 67 59 fu .any] true),(65,.cells 229 [.aC (.cons am (.aJ am))] true)]->Option (PR (some 231) (ak [(false,am)]×aF [(64,.cells 201 [.aC (.cons am (.aJ am)),.fix (TV.ptr 65 0),.all 66 3 am .any,.all 67 59 fu .any] true),(65,.cells 229 [.aC (.cons am (.aJ am))] true)]))):bm:=⟨191,[(TV.ptr 64 0)],[(false,am),(false,am),(true,(.cons am (.cons .bool .bool))),(true,(.cons .str .str))],[(false,am)],66,[(64,.cells 201 [.aC (.cons am (.aJ am)),.fix (TV.ptr 65 0),.all 66 3 am .any,.all 67 59 fu .any] true),(65,.cells 229 [.aC (.cons am (.aJ am))] true)],68,[(64,.cells 201 [.aC (.cons am (.aJ am)),.fix (TV.ptr 65 0),.all 66 3 am .any,.all 67 59 fu .any] true),(65,.cells 229 [.aC (.cons am (.aJ am))] true)],68,false,(some 231),D,F⟩
theorem Aw (D:Nat) (F):(er D F).T.ok Tryz.prog hint:=by
 intro p hp;simp only [er,bm.T,List.mem_cons,List.not_mem_nil,or_false] at hp;rcases hp with rfl |rfl
 ·trivial
 ·trivial
theorem Jj (D:Nat) (F):(er D F).T2.ok Tryz.prog hint:=by
 intro p hp;simp only [er,bm.T2,List.mem_cons,List.not_mem_nil,or_false] at hp;rcases hp with rfl |rfl
 ·trivial
 ·trivial
noncomputable def qw (Fr:Nat->Int->Int->g5->gc->bi->bv->dz->bi->Option ce):bm:=er 0 (fun n x=>Fr n x.1.1 x.1.2.1 x.1.2.2.1 x.1.2.2.2.1 x.2.1.1 x.2.1.2.2.1 x.2.1.2.2.2.1 x.2.2.1.1)
noncomputable def ny:Tm:=⟨[(0,.one (.fix (TV.ptr 64 0))),(1,ac)],[(64,.cells 201 [.aC (.cons am (.aJ am)),.fix (TV.ptr 65 0),.all 79 3 am .any,.all 80 59 fu .any] true),(65,.cells 229 [.aC (.cons am (.aJ am))] true)],79,81,2013⟩
noncomputable def my:Tm:=⟨[(0,ac)],[],79,79,2013⟩
noncomputable def FU:Tm:=⟨[(0,.one (.fix (TV.ptr 64 0))),(1,ac),(2,ac),(3,.one (.bool))],[(64,.cells 201 [.aC (.cons am (.aJ am)),.fix (TV.ptr 65 0),.all 79 3 am .any,.all 80 59 fu .any] true),(65,.cells 229 [.aC (.cons am (.aJ am))] true)],79,81,2013⟩
noncomputable def CX (Fr:Nat->Int->Int->g5->gc->bi->bv->dz->bi->Option ce):Nat->Int->Int->Bool->bi->bv->dz->bi->Option (((Unit×dg)×((bi×(Unit×(bv×(dz×Unit))))×((bi×Unit)×Unit)))⊕mt)
 |0,_,_,_,_,_,_,_=>none
 |n+1,t1,t2,t3,c64_0,c64_2,c64_3,c65_0=>
 Option.bind (Fr (n+4) t1 (zal (t2+1)) (t2,(true,false)) (([]:List UInt8),([]:List UInt8)) c64_0 c64_2 c64_3 c65_0) fun y14=>
 match y14 with
  | .inl y15=>
  Option.bind (qx (n+1) y15.1.1 t2 y15.2.1.1) fun y16=>
  match y16 with
   | .inl y17=>
   bif (!y17.1.2.1) then
   some (.inl (((),(y15.1.1,())),((y15.2.1.1,((),(y15.2.1.2.2.1,(y15.2.1.2.2.2.1,())))),((y15.2.2.1.1,()),()))))
   else
   none
   | .inr e18=>
   some (.inr ((e18,()),()))
  | .inr e19=>
  some (.inr ((e19,()),()))
noncomputable def zO (Fr:Nat->Int->Int->g5->gc->bi->bv->dz->bi->Option ce):aM:=⟨210,2,none,FU,[(.exit 0,ny),(.I8 231,my)],4,fun n x=>CX Fr n x.1.2.1 x.1.2.2.1 x.1.2.2.2.1 x.2.1.1 x.2.1.2.2.1 x.2.1.2.2.2.1 x.2.2.1.1,[68,69,72,73,74,75,77],[]⟩
theorem rz:ny.ok Tryz.prog hint:=Tm.dq rfl
theorem qM:my.ok Tryz.prog hint:=Tm.dq rfl
theorem s8:FU.ok Tryz.prog hint:=Tm.dq rfl
theorem N3 (Fr:Nat->Int->Int->g5->gc->bi->bv->dz->bi->Option ce) (hFr:∀ m,aN Tryz.prog hint aG (qw Fr) m):∀ n,ao Tryz.prog hint aG (zO Fr) n:=
 ao.of (hk:=fun β=>(an.mk [] []).vb [sW,(qw Fr)] β) (sh:=aG) (aL.of (by kernel_rfl)) s8 ⟨⟨rz,zai _,zai _⟩,⟨qM,zai _,zai _⟩,trivial⟩ (fun m=>ab.eG ab.nil ((ct.nil.fn hFr (Aw _ _)).fn Gb (BP _ _)) m)
  (fun _=>by kernel_rfl) (fun m x=>by kernel_rfl)
noncomputable def lR:Tm:=⟨[(0,ac)],[],70,70,1003⟩
noncomputable def tI:Tm:=⟨[(10,ac)],[(64,.cells 201 [.aC (.cons am (.aJ am)),.fix (TV.ptr 65 0),.all 70 3 am .any,.all 71 59 fu .any] true),(65,.cells 229 [.aC (.cons am (.aJ am))] true),(68,.cells 253 [be,.bool,.bool] true),(69,.cells 255 [.str,.str] true)],70,72,1003⟩
noncomputable def Eb:Tm:=⟨[(0,.one (.fix (TV.ptr 64 0))),(1,ac),(2,ac),(8,.one (.fix (TV.ptr 68 0))),(9,.one (.fix (TV.ptr 69 0)))],[(64,.cells 201 [.aC (.cons am (.aJ am)),.fix (TV.ptr 65 0),.all 70 3 am .any,.all 71 59 fu .any] true),(65,.cells 229 [.aC (.cons am (.aJ am))] true),(68,.cells 253 [be,.bool,.bool] true),(69,.cells 255 [.str,.str] true)],70,72,1003⟩
noncomputable def mb (Fr:Nat->Int->Int->g5->gc->bi->bv->dz->bi->Option ce):Nat->Int->Int->bi->bv->dz->bi->Int->Bool->Bool->d7->d7->Option (mt⊕(dg×((bi×(Unit×(bv×(dz×Unit))))×((bi×Unit)×((Int×(Bool×d8))×((d7×jp)×Unit))))))
 |0,_,_,_,_,_,_,_,_,_,_,_=>none
 |n+1,t1,t2,c64_0,c64_2,c64_3,c65_0,c68_0,c68_1,c68_2,c69_0,c69_1=>
 Option.bind (qu (n+6) t1 t2 c64_0) fun y46=>
 bif (aR 0 (len y46.1.1)) then
 Option.bind (xI (n+6) t1 y46.1.2.1 45 c64_0) fun y47=>
 bif y47.1.1 then
 bif (!c68_1) then
 none
 else
 bif (aQ 200 (len c64_2)) then
 some (.inl ((8,()),()))
 else
 bif (room (((List.length c64_3)+(List.length (((3:Int),(([]:List UInt8),(c69_1,(c69_0,((0:Int),false))))):: [])))*73)) then
 bif (room (((List.length c64_2)+(List.length (3::([]:List Int))))*9)) then
 Option.bind (CX Fr (n+3) t1 y46.1.2.1 false c64_0 (c64_2++(3::([]:List Int))) (c64_3++((3,(([]:List UInt8),(c69_1,(c69_0,(0,false))))):: [])) c65_0) fun y48=>
 match y48 with
  | .inl y49=>
  bif (room (((List.length y49.2.1.2.2.2.1)+(List.length (((4:Int),(([]:List UInt8),(([]:List UInt8),(([]:List UInt8),((0:Int),false))))):: [])))*73)) then
  bif ((aQ 0 (zal ((len y49.2.1.2.2.1) - 1))) &&(aQ (zal ((len y49.2.1.2.2.1) - 1)) (len y49.2.1.2.2.1))) then
  some (.inr ((y49.1.2.1,()),((y49.2.1.1,((),((List.take ((Int.toNat (zal ((len y49.2.1.2.2.1) - 1))) - 0) (List.drop 0 y49.2.1.2.2.1)),((y49.2.1.2.2.2.1++((4,(([]:List UInt8),(([]:List UInt8),(([]:List UInt8),(0,false))))):: [])),())))),((y49.2.2.1.1,()),((c68_0,(c68_1,(c68_2,()))),((c69_0,(c69_1,())),()))))))
  else none
  else none
  | .inr y50=>
  some (.inl ((y50.1.1,()),()))
 else none
 else none
 else
 Option.bind (K3 (n+4) t1 y46.1.2.1 c64_0 c65_0) fun y51=>
 bif y51.1.1 then
 none
 else
 Option.bind (vc (n+1) t1 y46.1.2.1 c65_0) fun y52=>
 bif (y52.1.2.2.1 !=0) then
 some (.inl ((y52.1.2.2.1,()),()))
 else
 bif (c69_0==([]:List UInt8)) then
 bif (c69_1==([]:List UInt8)) then
 bif (room ((List.length c69_0)+(List.length y52.1.1.1))) then
 bif (room ((List.length c69_1)+(List.length y52.1.1.2))) then
 Option.bind (qu (n+6) t1 y52.1.2.1 c64_0) fun y53=>
 bif (aR 0 (len y53.1.1)) then
 Option.bind (Ey (n+3) t1 y52.1.2.1 c68_0 ((c69_0++y52.1.1.1),(c69_1++y52.1.1.2)) c64_0 c64_2 c64_3 c65_0) fun y54=>
 match y54 with
  | .inl y55=>
  some (.inr ((y55.1.1,()),((y55.2.1.1,((),(y55.2.1.2.2.1,(y55.2.1.2.2.2.1,())))),((y55.2.2.1.1,()),((c68_0,(c68_1,(c68_2,()))),(((c69_0++y52.1.1.1),((c69_1++y52.1.1.2),())),()))))))
  | .inr e56=>
  some (.inl ((e56,()),()))
 else
 none
 else none
 else none
 else
 none
 else
 none
 else
 Option.bind (zW (n+5) (zal (t1+1)) c64_0) fun y57=>
 match y57 with
  | .inl y58=>
  bif (!y58.1.2.1) then
  bif (room (((List.length c64_3)+(List.length (((7:Int),(([]:List UInt8),(c69_1,(c69_0,((1:Int),false))))):: [])))*73)) then
  some (.inr (((zal (t1+1)),()),((c64_0,((),(c64_2,((c64_3++((7,(([]:List UInt8),(c69_1,(c69_0,(1,false))))):: [])),())))),((c65_0,()),((c68_0,(c68_1,(c68_2,()))),((c69_0,(c69_1,())),()))))))
  else none
  else
  none
  | .inr e59=>
  some (.inl ((e59,()),()))
noncomputable def AK (Fr:Nat->Int->Int->g5->gc->bi->bv->dz->bi->Option ce):aM:=⟨191,1,none,Eb,[(.I8 231,lR),(.ret,tI)],7,fun n x=>mb Fr n x.1.2.1 x.1.2.2.1 x.2.1.1 x.2.1.2.2.1 x.2.1.2.2.2.1 x.2.2.1.1 x.2.2.2.1.1 x.2.2.2.1.2.1 x.2.2.2.1.2.2.1 x.2.2.2.2.1.1 x.2.2.2.2.1.2.1,[],[68]⟩
theorem o7:lR.ok Tryz.prog hint:=Tm.dq rfl
theorem vo:tI.ok Tryz.prog hint:=Tm.dq rfl
theorem te:Eb.ok Tryz.prog hint:=Tm.dq rfl
theorem NI (Fr:Nat->Int->Int->g5->gc->bi->bv->dz->bi->Option ce) (hFr:∀ m,aN Tryz.prog hint aG (qw Fr) m):∀ n,ao Tryz.prog hint aG (AK Fr) n:=
 ao.of (hk:=fun β=>(an.mk [] [(zO Fr)]).vb [qV,FR,xQ,Fy,vS,qD] β) (sh:=aG) (aL.of (by kernel_rfl)) te ⟨⟨o7,zai _,zai _⟩,⟨vo,zai _,zai _⟩,trivial⟩ (fun m=>ab.eG (ab.nil.loop (N3 Fr hFr) s8) ((((((ct.nil.fn vI (rG _ _)).fn HB (Az _ _)).fn Ot (M7 _ _)).fn IF (EU _ _)).fn OW (N2 _ _)).fn xz (rD _ _)) m)
  (fun _=>by kernel_rfl) (fun m x=>by kernel_rfl)
noncomputable def mW (Fr:Nat->Int->Int->g5->gc->bi->bv->dz->bi->Option ce) (n:Nat) (line:Int) (column:Int) (w:g5) (t:gc) (c64_0:bi) (c64_2:bv) (c64_3:dz) (c65_0:bi):Option ce:=
 Option.bind (mb Fr n line column c64_0 c64_2 c64_3 c65_0 w.1 w.2.1 w.2.2 t.1 t.2) fun y60=>
 match y60 with
 | .inl y61=>
 some (.inr y61.1.1)
 | .inr y62=>
 some (.inl ((y62.1.1,()),((y62.2.1.1,((),(y62.2.1.2.2.1,(y62.2.1.2.2.2.1,())))),((y62.2.2.1.1,()),()))))
noncomputable def L7 (Fr:Nat->Int->Int->g5->gc->bi->bv->dz->bi->Option ce):bm:=er 7 (fun n x=>mW Fr n x.1.1 x.1.2.1 x.1.2.2.1 x.1.2.2.2.1 x.2.1.1 x.2.1.2.2.1 x.2.1.2.2.2.1 x.2.2.1.1)
theorem Mp (Fr:Nat->Int->Int->g5->gc->bi->bv->dz->bi->Option ce) (hFr:∀ m,aN Tryz.prog hint aG (qw Fr) m) (n:Nat):aN Tryz.prog hint aG (L7 Fr) n:=
 aN.of (hk:=fun β=>(an.mk [] [(AK Fr)]).hk β) (sh:=aG) (Jj _ _) (fun m _=>ab.aK (ab.nil.loop (NI Fr hFr) te) m) (fun x s=>by kernel_rfl)
noncomputable def fB:Nat->Nat->Int->Int->g5->gc->bi->bv->dz->bi->Option ce
 |0,_,_,_,_,_,_,_,_,_=>none
 |d+1,n,line,column,w,t,c64_0,c64_2,c64_3,c65_0=>bif Nat.ble 7 n then mW (fB d) (n - 7) line column w t c64_0 c64_2 c64_3 c65_0 else none
noncomputable def Ap (n:Nat) (line:Int) (column:Int) (w:g5) (t:gc) (c64_0:bi) (c64_2:bv) (c64_3:dz) (c65_0:bi):Option ce:=fB n n line column w t c64_0 c64_2 c64_3 c65_0
noncomputable def FK:bm:=er 0 (fun n x=>Ap n x.1.1 x.1.2.1 x.1.2.2.1 x.1.2.2.2.1 x.2.1.1 x.2.1.2.2.1 x.2.1.2.2.2.1 x.2.2.1.1)
theorem Q5 (n:Nat):aN Tryz.prog hint aG FK n:=
 aN.diag (it:=er 0 fun _ _=>none) (fun d n x=>fB d n x.1.1 x.1.2.1 x.1.2.2.1 x.1.2.2.2.1 x.2.1.1 x.2.1.2.2.1 x.2.1.2.2.2.1 x.2.2.1.1) (aN.Cc (it:=er 0 fun _ _=>none) (D:=7) (fun G n x=>mW (fun n line column w t c64_0 c64_2 c64_3 c65_0=>G n ((line,(column,(w,(t,())))),((c64_0,((),(c64_2,(c64_3,())))),((c65_0,()),())))) n x.1.1 x.1.2.1 x.1.2.2.1 x.1.2.2.2.1 x.2.1.1 x.2.1.2.2.1 x.2.1.2.2.2.1 x.2.2.1.1) _ (fun _ _=>rfl) (fun _ _ _=>rfl) (fun G h n=>Mp (fun n line column w t c64_0 c64_2 c64_3 c65_0=>G n ((line,(column,(w,(t,())))),((c64_0,((),(c64_2,(c64_3,())))),((c65_0,()),())))) h n)) n
set_option maxRecDepth 100000
noncomputable def nQ:Tm:=⟨[],[],64,64,1000⟩
noncomputable def Fw:Tm:=⟨[(0,.one (.aC (.cons am (.aJ am)))),(1,.one (.fix (TV.fn 163 [] []))),(7,ac),(8,ac)],[],64,64,1000⟩
noncomputable def wi:Nat->bi->Int->Int->Option d9
 |0,_,_,_=>none
 |n+1,t0,t7,t8=>
 bif (aR t8 t7) then
 bif (aQ 0 t8) then
 Option.bind (t0[(Int.toNat t8)]?) fun x2=>
 bif (aR x2.1 0) then
 none
 else
 wi n t0 t7 (zal (t8+1))
 else none
 else
 some ((),())
noncomputable def AS:aM:=⟨190,2,none,Fw,[(.exit 0,nQ)],1,fun n x=>wi n x.1.1 x.1.2.2.1 x.1.2.2.2.1,[],[]⟩
theorem sG:nQ.ok Tryz.prog hint:=Tm.dq rfl
theorem tw:Fw.ok Tryz.prog hint:=Tm.dq rfl
theorem Nd:∀ n,ao Tryz.prog hint aG AS n:=
 ao.of (hk:=fun β=>(an.mk [] []).hk β) (sh:=aG) (aL.of (by kernel_rfl)) tw ⟨⟨sG,zai _,zai _⟩,trivial⟩ (fun m=>ab.aK ab.nil m)
  (fun _=>by kernel_rfl) (fun m x=>by kernel_rfl)
noncomputable def ql (n:Nat) (l:List i6):Option (bi×Unit):=
 Option.bind (wi n l (len l) 0) fun _=>
 some (l,())
noncomputable def vM:bu:=⟨134,[(false,(.aJ (.cons am (.aJ am))))],[(false,(.aJ (.cons am (.aJ am))))],3,fun n x=>ql n x.1⟩
theorem Ii (n:Nat):aI Tryz.prog hint aG vM n:=
 aI.of (hk:=fun β=>(an.mk [] [AS]).hk β) (sh:=aG) (fun m _=>ab.aK (ab.nil.loop Nd tw) m) (fun x=>by kernel_rfl)
noncomputable def LY (n:Nat) (l:List i6) (line:Int) (column:Int):Option (dz×g7):=
 Option.bind (ql (n+1) l) fun y0=>
 bif (aR line 0) then
 none
 else
 bif (aQ (len y0.1) line) then
 none
 else
 bif (aR column 0) then
 none
 else
 bif (aQ 0 line) then
 Option.bind (y0.1[(Int.toNat line)]?) fun x1=>
 bif (aQ 0 line) then
 Option.bind (y0.1[(Int.toNat line)]?) fun x2=>
 bif (aR (len x2.2) (zal (column - x1.1))) then
 none
 else
 Option.bind (ql n y0.1) fun y3=>
 Option.bind (Ap (n+2) line column ((-1),((column==0),false)) (([]:List UInt8),([]:List UInt8)) y0.1 ([]:List Int) [] y3.1) fun y4=>
 match y4 with
 | .inl y5=>
 Option.bind (zW n y5.1.1 y5.2.1.1) fun y6=>
 match y6 with
  | .inl y7=>
  bif (!y7.1.2.1) then
  some (y5.2.1.2.2.2.1,y7.1.1,0,())
  else
  none
  | .inr e8=>
  bif (e8 !=0) then
  some ([],0,e8,())
  else
  none
 | .inr e9=>
 bif (e9 !=0) then
 some ([],0,e9,())
 else
 none
 else none
 else none
noncomputable def FA:bu:=⟨112,[(false,(.aJ (.cons am (.aJ am)))),(false,am),(false,am)],[(false,(.aJ fu)),(false,am),(false,am)],5,fun n x=>LY n x.1 x.2.1 x.2.2.1⟩
theorem RB (n:Nat):aI Tryz.prog hint aG FA n:=
 aI.of (hk:=fun β=>(an.mk [vM] []).vb [qV,FK] β) (sh:=aG) (fun m _=>ab.eG (ab.nil.fn Ii) ((ct.nil.fn Q5 (Aw _ _)).fn xz (rD _ _)) m) (fun x=>by kernel_rfl)
noncomputable def jR (D:Nat) (F:Nat->ak []×aF [(64,.cells 78 [.aC (.cons am (.aJ am)),be,.all 65 59 fu .any] true)]->Option (PR none (ak [(false,.bool),(false,.bool)]×aF [(64,.cells 78 [.aC (.cons am (.aJ am)),be,.all 65 59 fu .any] true)]))):bm:=⟨54,[(TV.ptr 64 0)],[],[(false,.bool),(false,.bool)],65,[(64,.cells 78 [.aC (.cons am (.aJ am)),be,.all 65 59 fu .any] true)],66,[(64,.cells 78 [.aC (.cons am (.aJ am)),be,.all 65 59 fu .any] true)],66,false,none,D,F⟩
theorem Ms (D:Nat) (F):(jR D F).T.ok Tryz.prog hint:=by
 intro p hp;simp only [jR,bm.T,List.mem_cons,List.not_mem_nil,or_false] at hp;rcases hp with rfl
 ·trivial
theorem Jo (D:Nat) (F):(jR D F).T2.ok Tryz.prog hint:=by
 intro p hp;simp only [jR,bm.T2,List.mem_cons,List.not_mem_nil,or_false] at hp;rcases hp with rfl
 ·trivial
noncomputable def qX:Tm:=⟨[],[(64,.cells 78 [.aC (.cons am (.aJ am)),be,.all 66 59 fu .any] true)],66,67,1001⟩
noncomputable def Km:Tm:=⟨[(0,.one (.fix (TV.ptr 64 0)))],[(64,.cells 78 [.aC (.cons am (.aJ am)),be,.all 66 59 fu .any] true)],66,67,1001⟩
noncomputable def Ki:Nat->bi->Int->dz->Option (Unit×(g9×Unit))
 |0,_,_,_=>none
 |n+1,c64_0,c64_1,c64_2=>
 bif (!(c64_1==(len c64_0))) then
 bif (aQ 0 c64_1) then
 Option.bind (c64_0[(Int.toNat c64_1)]?) fun x4=>
 Option.bind (bare (n+1) (x4.1,x4.2)) fun y5=>
 bif y5.1 then
 none
 else
 some ((),((c64_0,(c64_1,(c64_2,()))),()))
 else none
 else
 some ((),((c64_0,(c64_1,(c64_2,()))),()))
noncomputable def Gz:aM:=⟨82,0,none,Km,[(.exit 0,qX)],3,fun n x=>Ki n x.2.1.1 x.2.1.2.1 x.2.1.2.2.1,[],[]⟩
theorem ur:qX.ok Tryz.prog hint:=Tm.dq rfl
theorem yb:Km.ok Tryz.prog hint:=Tm.dq rfl
theorem Ri:∀ n,ao Tryz.prog hint aG Gz n:=
 ao.of (hk:=fun β=>(an.mk [LQ] []).hk β) (sh:=aG) (aL.of (by kernel_rfl)) yb ⟨⟨ur,zai _,zai _⟩,trivial⟩ (fun m=>ab.aK (ab.nil.fn SQ) m)
  (fun _=>by kernel_rfl) (fun m x=>by kernel_rfl)
noncomputable def o8:Tm:=⟨[(4,.one (.bool))],[(64,.cells 78 [.aC (.cons am (.aJ am)),be,.all 67 59 fu .any] true)],67,68,2002⟩
noncomputable def Ly:Tm:=⟨[(0,.one (.fix (TV.ptr 64 0))),(4,.one (.bool))],[(64,.cells 78 [.aC (.cons am (.aJ am)),be,.all 67 59 fu .any] true)],67,68,2002⟩
noncomputable def Bl:Nat->Bool->bi->Int->dz->Option (d8×(g9×Unit))
 |0,_,_,_,_=>none
 |n+1,t4,c64_0,c64_1,c64_2=>
 bif (!(c64_1==(len c64_0))) then
 bif (aQ 0 c64_1) then
 Option.bind (c64_0[(Int.toNat c64_1)]?) fun x11=>
 Option.bind (oA (n+1) (x11.1,x11.2)) fun y12=>
 bif (y12.1==2) then
 none
 else
 some ((t4,()),((c64_0,(c64_1,(c64_2,()))),()))
 else none
 else
 some ((t4,()),((c64_0,(c64_1,(c64_2,()))),()))
noncomputable def Ht:aM:=⟨54,3,none,Ly,[(.exit 0,o8)],2,fun n x=>Bl n x.1.2.1 x.2.1.1 x.2.1.2.1 x.2.1.2.2.1,[],[]⟩
theorem uo:o8.ok Tryz.prog hint:=Tm.dq rfl
theorem wZ:Ly.ok Tryz.prog hint:=Tm.dq rfl
theorem Qq:∀ n,ao Tryz.prog hint aG Ht n:=
 ao.of (hk:=fun β=>(an.mk [jP] []).hk β) (sh:=aG) (aL.of (by kernel_rfl)) wZ ⟨⟨uo,zai _,zai _⟩,trivial⟩ (fun m=>ab.aK (ab.nil.fn nj) m)
  (fun _=>by kernel_rfl) (fun m x=>by kernel_rfl)
noncomputable def AW (n:Nat) (c64_0:bi) (c64_1:Int) (c64_2:dz):Option ((Bool×d8)×(g9×Unit)):=
 Option.bind (Ki n c64_0 c64_1 c64_2) fun y6=>
 Option.bind (Bl (n+2) false y6.2.1.1 y6.2.1.2.1 y6.2.1.2.2.1) fun y13=>
 some ((y13.1.1,true,()),((y13.2.1.1,(y13.2.1.2.1,(y13.2.1.2.2.1,()))),()))
noncomputable def ED:bm:=jR 4 (fun n x=>AW n x.2.1.1 x.2.1.2.1 x.2.1.2.2.1)
theorem QD (n:Nat):aN Tryz.prog hint aG ED n:=
 aN.of (hk:=fun β=>(an.mk [] [Ht,Gz]).hk β) (sh:=aG) (Jo _ _) (fun m _=>ab.aK ((ab.nil.loop Ri yb).loop Qq wZ) m) (fun x s=>by kernel_rfl)
noncomputable def jH (D:Nat) (F:Nat->ak []×aF [(64,.cells 78 [.aC (.cons am (.aJ am)),be,.all 66 59 fu .any] true),(65,.cells 150 [ap] true)]->Option (PR none (ak [(false,am)]×aF [(64,.cells 78 [.aC (.cons am (.aJ am)),be,.all 66 59 fu .any] true),(65,.cells 150 [ap] true)]))):bm:=⟨85,[(TV.ptr 64 0),(TV.ptr 65 0)],[],[(false,am)],66,[(64,.cells 78 [.aC (.cons am (.aJ am)),be,.all 66 59 fu .any] true),(65,.cells 150 [ap] true)],67,[(64,.cells 78 [.aC (.cons am (.aJ am)),be,.all 66 59 fu .any] true),(65,.cells 150 [ap] true)],67,false,none,D,F⟩
theorem NT (D:Nat) (F):(jH D F).T.ok Tryz.prog hint:=by
 intro p hp;simp only [jH,bm.T,List.mem_cons,List.not_mem_nil,or_false] at hp;rcases hp with rfl |rfl
 ·trivial
 ·trivial
theorem IP (D:Nat) (F):(jH D F).T2.ok Tryz.prog hint:=by
 intro p hp;simp only [jH,bm.T2,List.mem_cons,List.not_mem_nil,or_false] at hp;rcases hp with rfl |rfl
 ·trivial
 ·trivial
noncomputable def pH:Tm:=⟨[(0,.one (.fix (TV.ptr 64 0))),(6,.one (.bool))],[(64,.cells 78 [.aC (.cons am (.aJ am)),be,.all 68 59 fu .any] true),(65,.cells 150 [ap] true),(67,.cells 3 [be] true)],68,69,1003⟩
noncomputable def Lz:Tm:=⟨[(0,.one (.fix (TV.ptr 64 0))),(1,.one (.fix (TV.ptr 65 0))),(5,.one (.fix (TV.ptr 67 0))),(6,.one (.bool))],[(64,.cells 78 [.aC (.cons am (.aJ am)),be,.all 68 59 fu .any] true),(65,.cells 150 [ap] true),(67,.cells 3 [be] true)],68,69,1003⟩
noncomputable def PZ:Nat->Bool->bi->Int->dz->Int->Option ((Unit×d8)×(g9×(d9×mt)))
 |0,_,_,_,_,_=>none
 |_+1,t6,c64_0,c64_1,c64_2,c67_0=>
 bif (!(c64_1==(len c64_0))) then
 bif (aQ 0 c64_1) then
 Option.bind (c64_0[(Int.toNat c64_1)]?) fun x4=>
 bif (x4.1==0) then
 bif (aR 0 (len x4.2)) then
 Option.bind (x4.2[0]?) fun x5=>
 bif (x5==37) then
 none
 else
 some (((),(t6,())),((c64_0,(c64_1,(c64_2,()))),(((),()),((c67_0,()),()))))
 else
 none
 else
 none
 else none
 else
 none
noncomputable def DT:aM:=⟨85,2,none,Lz,[(.exit 0,pH)],1,fun n x=>PZ n x.1.2.2.2.1 x.2.1.1 x.2.1.2.1 x.2.1.2.2.1 x.2.2.2.1.1,[],[65,67]⟩
theorem uh:pH.ok Tryz.prog hint:=Tm.dq rfl
theorem xK:Lz.ok Tryz.prog hint:=Tm.dq rfl
theorem Pj:∀ n,ao Tryz.prog hint aG DT n:=
 ao.of (hk:=fun β=>(an.mk [] []).hk β) (sh:=aG) (aL.of (by kernel_rfl)) xK ⟨⟨uh,zai _,zai _⟩,trivial⟩ (fun m=>ab.aK ab.nil m)
  (fun _=>by kernel_rfl) (fun m x=>by kernel_rfl)
noncomputable def Kx (n:Nat) (c64_0:bi) (c64_1:Int) (c64_2:dz):Option (dg×(g9×(d9×Unit))):=
 Option.bind (PZ (n+1) false c64_0 c64_1 c64_2 0) fun y6=>
 bif y6.1.2.1 then
 bif (y6.2.1.2.1==(len y6.2.1.1)) then
 some ((2,()),((y6.2.1.1,(y6.2.1.2.1,(y6.2.1.2.2.1,()))),(((),()),())))
 else
 bif (aQ 0 y6.2.1.2.1) then
 Option.bind (y6.2.1.1[(Int.toNat y6.2.1.2.1)]?) fun x7=>
 Option.bind (oA n (x7.1,x7.2)) fun y8=>
 bif (y8.1 !=1) then
 some ((2,()),((y6.2.1.1,(y6.2.1.2.1,(y6.2.1.2.2.1,()))),(((),()),())))
 else
 some ((0,()),((y6.2.1.1,(y6.2.1.2.1,(y6.2.1.2.2.1,()))),(((),()),())))
 else none
 else
 some ((0,()),((y6.2.1.1,(y6.2.1.2.1,(y6.2.1.2.2.1,()))),(((),()),())))
noncomputable def Fq:bm:=jH 2 (fun n x=>Kx n x.2.1.1 x.2.1.2.1 x.2.1.2.2.1)
theorem Qs (n:Nat):aN Tryz.prog hint aG Fq n:=
 aN.of (hk:=fun β=>(an.mk [jP] [DT]).hk β) (sh:=aG) (IP _ _) (fun m _=>ab.aK ((ab.nil.loop Pj xK).fn nj) m) (fun x s=>by kernel_rfl)
noncomputable def mj (D:Nat) (F:Nat->ak []×aF [(64,.cells 78 [.aC (.cons am (.aJ am)),be,.all 66 59 fu .any] true),(65,.cells 150 [ap] true)]->Option (PR none (ak [(false,am)]×aF [(64,.cells 78 [.aC (.cons am (.aJ am)),be,.all 66 59 fu .any] true),(65,.cells 150 [ap] true)]))):bm:=⟨86,[(TV.ptr 64 0),(TV.ptr 65 0)],[],[(false,am)],66,[(64,.cells 78 [.aC (.cons am (.aJ am)),be,.all 66 59 fu .any] true),(65,.cells 150 [ap] true)],67,[(64,.cells 78 [.aC (.cons am (.aJ am)),be,.all 66 59 fu .any] true),(65,.cells 150 [ap] true)],67,false,none,D,F⟩
theorem Py (D:Nat) (F):(mj D F).T.ok Tryz.prog hint:=by
 intro p hp;simp only [mj,bm.T,List.mem_cons,List.not_mem_nil,or_false] at hp;rcases hp with rfl |rfl
 ·trivial
 ·trivial
theorem Oc (D:Nat) (F):(mj D F).T2.ok Tryz.prog hint:=by
 intro p hp;simp only [mj,bm.T2,List.mem_cons,List.not_mem_nil,or_false] at hp;rcases hp with rfl |rfl
 ·trivial
 ·trivial
noncomputable def nX:Tm:=⟨[(6,.one (.fix (TV.all 68)))],[(65,.cells 150 [ap] true),(68,.arr 59 fu true false .no)],69,69,1003⟩
noncomputable def D4:Tm:=⟨[(1,.one (.fix (TV.ptr 65 0))),(6,.one (.fix (TV.all 68))),(13,.one (.fix (TV.all 68))),(14,ac),(15,ac)],[(65,.cells 150 [ap] true),(68,.arr 59 fu true false .no)],69,69,1003⟩
noncomputable def mE:Nat->Int->Int->dz->Option (d9×(d9×(dz×Unit)))
 |0,_,_,_=>none
 |n+1,t14,t15,a68=>
 bif (aR t15 t14) then
 bif ((aQ 0 t15) &&(aR t15 (len a68))) then
 Option.bind (a68[(Int.toNat t15)]?) fun x11=>
 Option.bind (bif (x11.2.2.1==([]:List UInt8)) then
 some true
 else
 none) fun b13=>
 bif b13 then
 bif ((aQ 0 t15) &&(aR t15 (len a68))) then
 Option.bind (a68[(Int.toNat t15)]?) fun x14=>
 mE n t14 (zal (t15+1)) (List.set a68 (Int.toNat t15) (x14.1,(x14.2.1,(x11.2.2.1,(x14.2.2.2.1,(x14.2.2.2.2.1,x14.2.2.2.2.2))))))
 else none
 else
 none
 else none
 else
 some (((),()),(((),()),(a68,())))
noncomputable def Be:aM:=⟨113,3,none,D4,[(.exit 0,nX)],1,fun n x=>mE n x.1.2.2.2.1 x.1.2.2.2.2.1 x.2.2.1,[64,66],[65]⟩
theorem rJ:nX.ok Tryz.prog hint:=Tm.dq rfl
theorem tk:D4.ok Tryz.prog hint:=Tm.dq rfl
theorem N1:∀ n,ao Tryz.prog hint aG Be n:=
 ao.of (hk:=fun β=>(an.mk [] []).hk β) (sh:=aG) (aL.of (by kernel_rfl)) tk ⟨⟨rJ,zai _,zai _⟩,trivial⟩ (fun m=>ab.aK ab.nil m)
  (fun _=>by kernel_rfl) (fun m x=>by kernel_rfl)
noncomputable def Ut (n:Nat) (c64_0:bi) (c64_1:Int) (c64_2:dz):Option (dg×(g9×(d9×Unit))):=
 bif (aQ 0 c64_1) then
 Option.bind (c64_0[(Int.toNat c64_1)]?) fun x0=>
 Option.bind (oA (n+4) (x0.1,x0.2)) fun y1=>
 bif (y1.1==1) then
 none
 else
 Option.bind (LY n c64_0 c64_1 0) fun y2=>
 bif (y2.2.2.1 !=0) then
 some ((y2.2.2.1,()),((c64_0,(c64_1,(c64_2,()))),(((),()),())))
 else
 bif (!(List.isEmpty y2.1)) then
 bif (room ((0+(List.length y2.1))*73)) then
 Option.bind (mE (n+4) (len ([]++y2.1)) 0 ([]++y2.1)) fun y15=>
 bif (!(y2.2.1==(len c64_0))) then
 none
 else
 bif (room (((List.length c64_2)+(List.length (((1:Int),(([]:List UInt8),(([]:List UInt8),(([]:List UInt8),((0:Int),(y1.1==(1:Int))))))):: [])))*73)) then
 bif (room (((List.length (c64_2++(((1:Int),(([]:List UInt8),(([]:List UInt8),(([]:List UInt8),((0:Int),(y1.1==(1:Int))))))):: [])))+(List.length y15.2.2.1))*73)) then
 bif (room (((List.length ((c64_2++(((1:Int),(([]:List UInt8),(([]:List UInt8),(([]:List UInt8),((0:Int),(y1.1==(1:Int))))))):: []))++y15.2.2.1))+(List.length (((2:Int),(([]:List UInt8),(([]:List UInt8),(([]:List UInt8),((0:Int),false))))):: [])))*73)) then
 some ((0,()),((c64_0,(y2.2.1,((((c64_2++((1,(([]:List UInt8),(([]:List UInt8),(([]:List UInt8),(0,(y1.1==1)))))):: []))++y15.2.2.1)++((2,(([]:List UInt8),(([]:List UInt8),(([]:List UInt8),(0,false))))):: [])),()))),(((),()),())))
 else none
 else none
 else none
 else none
 else none
 else none
noncomputable def LG:bm:=mj 6 (fun n x=>Ut n x.2.1.1 x.2.1.2.1 x.2.1.2.2.1)
theorem UB (n:Nat):aN Tryz.prog hint aG LG n:=
 aN.of (hk:=fun β=>(an.mk [FA,jP] [Be]).hk β) (sh:=aG) (Oc _ _) (fun m _=>ab.aK (((ab.nil.fn nj).fn RB).loop N1 tk) m) (fun x s=>by kernel_rfl)
noncomputable def ov:Tm:=⟨[],[(64,.cells 39 [.fix (TV.raw (Go.Value.slice (Option.none) 0 0))] true),(65,.cells 27 [be] true),(66,.cells 78 [.aC (.cons am (.aJ am)),be,.all 69 59 fu .any] true),(67,.cells 76 [.fix (TV.ptr 66 0)] true),(68,.loop 15 Go.LoopState.ready (Option.none) (jy Tryz.prog hint 15) [(2,.one (.fix (TV.ptr 64 0))),(3,.one (.fix (TV.ptr 65 0)))] (aH Tryz.prog 15 4).1 (aH Tryz.prog 15 4).2.1 (aH Tryz.prog 15 4).2.2)],69,70,1005⟩
noncomputable def kU:Tm:=⟨[],[(64,.cells 39 [.fix (TV.raw (Go.Value.slice (Option.none) 0 0))] true),(65,.cells 27 [be] true),(66,.cells 78 [.aC (.cons am (.aJ am)),be,.all 69 59 fu .any] true),(67,.cells 76 [.fix (TV.ptr 66 0)] true),(68,.loop 15 Go.LoopState.done (Option.some Go.Code.ret) (jy Tryz.prog hint 15) [(2,.one (.fix (TV.ptr 64 0))),(3,.one (.fix (TV.ptr 65 0)))] (aH Tryz.prog 15 4).1 (aH Tryz.prog 15 4).2.1 (aH Tryz.prog 15 4).2.2)],69,70,1005⟩
noncomputable def CY:Tm:=⟨[(0,.one (.fix (TV.mX 68))),(1,.one (.fix (TV.ptr 67 0))),(3,.one (.bool))],[(64,.cells 39 [.fix (TV.raw (Go.Value.slice (Option.none) 0 0))] true),(65,.cells 27 [be] true),(66,.cells 78 [.aC (.cons am (.aJ am)),be,.all 69 59 fu .any] true),(67,.cells 76 [.fix (TV.ptr 66 0)] true),(68,.loop 15 Go.LoopState.ready (Option.none) (jy Tryz.prog hint 15) [(2,.one (.fix (TV.ptr 64 0))),(3,.one (.fix (TV.ptr 65 0)))] (aH Tryz.prog 15 4).1 (aH Tryz.prog 15 4).2.1 (aH Tryz.prog 15 4).2.2)],69,70,1005⟩
noncomputable def zZ:Nat->Bool->Int->bi->Int->dz->Option ((Unit×(d9×(dg×(g9×(d9×(ip×Unit))))))⊕(Unit×(d9×(dg×(g9×(d9×(ip×Unit)))))))
 |0,_,_,_,_,_=>none
 |n+1,t3,c65_0,c66_0,c66_1,c66_2=>
 Option.bind (AW (n+4) c66_0 c66_1 c66_2) fun y12=>
 bif (!y12.1.2.1) then
 none
 else
 bif (y12.2.1.2.1==(len y12.2.1.1)) then
 some (.inl ((),(((),()),((c65_0,()),((y12.2.1.1,(y12.2.1.2.1,(y12.2.1.2.2.1,()))),(((),()),(((),((),())),())))))))
 else
 bif t3 then
 Option.bind (Kx (n+5) y12.2.1.1 y12.2.1.2.1 y12.2.1.2.2.1) fun y13=>
 bif (y13.1.1 !=0) then
 none
 else
 Option.bind (Ut (n+1) y13.2.1.1 y13.2.1.2.1 y13.2.1.2.2.1) fun y14=>
 bif (y14.1.1 !=0) then
 some (.inr ((),(((),()),((y14.1.1,()),((y14.2.1.1,(y14.2.1.2.1,(y14.2.1.2.2.1,()))),(((),()),(((),((),())),())))))))
 else
 bif ((aQ 0 (zal ((len y14.2.1.2.2.1) - 1))) &&(aR (zal ((len y14.2.1.2.2.1) - 1)) (len y14.2.1.2.2.1))) then
 Option.bind (y14.2.1.2.2.1[(Int.toNat (zal ((len y14.2.1.2.2.1) - 1)))]?) fun x15=>
 zZ n x15.2.2.2.2.2 c65_0 y14.2.1.1 y14.2.1.2.1 y14.2.1.2.2.1
 else none
 else
 none
noncomputable def Ef:aM:=⟨53,1,none,CY,[(.ret,ov),(.ret,kU)],8,fun n x=>zZ n x.1.2.2.1 x.2.2.1.1 x.2.2.2.1.1 x.2.2.2.1.2.1 x.2.2.2.1.2.2.1,[],[67]⟩
theorem yY:ov.ok Tryz.prog hint:=by
 intro p hp;simp only [ov,List.mem_cons,List.not_mem_nil,or_false] at hp;rcases hp with rfl |rfl |rfl |rfl |rfl
 ·trivial
 ·trivial
 ·trivial
 ·trivial
 ·exact jJ.of (by kernel_rfl) (by kernel_rfl)
theorem uO:kU.ok Tryz.prog hint:=by
 intro p hp;simp only [kU,List.mem_cons,List.not_mem_nil,or_false] at hp;rcases hp with rfl |rfl |rfl |rfl |rfl
 ·trivial
 ·trivial
 ·trivial
 ·trivial
 ·exact jJ.of (by kernel_rfl) (by kernel_rfl)
theorem xO:CY.ok Tryz.prog hint:=by
 intro p hp;simp only [CY,List.mem_cons,List.not_mem_nil,or_false] at hp;rcases hp with rfl |rfl |rfl |rfl |rfl
 ·trivial
 ·trivial
 ·trivial
 ·trivial
 ·exact jJ.of (by kernel_rfl) (by kernel_rfl)
theorem Q8:∀ n,ao Tryz.prog hint aG Ef n:=
 ao.of (hk:=fun β=>(an.mk [] []).vb [LG,Fq,ED] β) (sh:=aG) (aL.of (by kernel_rfl)) xO ⟨⟨yY,zai _,zai _⟩,⟨uO,zai _,zai _⟩,trivial⟩ (fun m=>ab.eG ab.nil (((ct.nil.fn QD (Ms _ _)).fn Qs (NT _ _)).fn UB (Py _ _)) m)
  (fun _=>by kernel_rfl) (fun m x=>by kernel_rfl)
noncomputable def Lw (n:Nat) (l:List i6):Option (dz×dg):=
 Option.bind (zZ n true 0 l 0 []) fun y16=>
 match y16 with
 | .inl y17=>
 some (y17.2.2.2.1.2.2.1,0,())
 | .inr y18=>
 some ([],y18.2.2.1.1,())
noncomputable def EX:bu:=⟨15,[(false,(.aJ (.cons am (.aJ am))))],[(false,(.aJ fu)),(false,am)],9,fun n x=>Lw n x.1⟩
theorem Q2 (n:Nat):aI Tryz.prog hint aG EX n:=
 aI.of (hk:=fun β=>(an.mk [] [Ef]).hk β) (sh:=aG) (fun m _=>ab.aK (ab.nil.loop Q8 xO) m) (fun x=>by kernel_rfl)
noncomputable def events (n:Nat) (b:List UInt8):Option (dz×dg):=
 Option.bind (points (n+6) b) fun y0=>
 bif (y0.2.1 !=0) then
 none
 else
 Option.bind (kd (n+6) y0.1) fun y1=>
 bif (y1.2.1 !=0) then
 none
 else
 Option.bind (Lw n y1.1) fun y2=>
 some (y2.1,y2.2.1,())
noncomputable def Ad:bu:=⟨9,[(false,(.aJ .byte))],[(false,(.aJ fu)),(false,am)],10,fun n x=>events n x.1⟩
theorem MM (n:Nat):aI Tryz.prog hint aG Ad n:=
 aI.of (hk:=fun β=>(an.mk [EX,qt,AX] []).hk β) (sh:=aG) (fun m _=>ab.aK (((ab.nil.fn Mf).fn Cn).fn Q2) m) (fun x=>by kernel_rfl)
set_option maxRecDepth 100000
noncomputable def jz (_n:Nat) (x:(Int×d6)):Option d8:=
 bif (x.1==1) then
 some (((x.1==x.1) &&((x.2.1==([]:List UInt8)) &&((x.2.2.1==([]:List UInt8)) &&((x.2.2.2.1==([]:List UInt8)) &&((x.2.2.2.2.1==0) &&((x.2.2.2.2.2==x.2.2.2.2.2) &&true)))))),())
 else
 bif (x.1==2) then
 some (((x.1==x.1) &&((x.2.1==([]:List UInt8)) &&((x.2.2.1==([]:List UInt8)) &&((x.2.2.2.1==([]:List UInt8)) &&((x.2.2.2.2.1==0) &&((x.2.2.2.2.2==x.2.2.2.2.2) &&true)))))),())
 else
 bif (x.1==3) then
 some (((x.1==x.1) &&((x.2.1==([]:List UInt8)) &&((x.2.2.1==x.2.2.1) &&((x.2.2.2.1==x.2.2.2.1) &&((x.2.2.2.2.1==0) &&((x.2.2.2.2.2==x.2.2.2.2.2) &&true)))))),())
 else
 bif (x.1==5) then
 some (((x.1==x.1) &&((x.2.1==([]:List UInt8)) &&((x.2.2.1==x.2.2.1) &&((x.2.2.2.1==x.2.2.2.1) &&((x.2.2.2.2.1==0) &&((x.2.2.2.2.2==x.2.2.2.2.2) &&true)))))),())
 else
 bif (x.1==4) then
 some (((x.1==x.1) &&((x.2.1==([]:List UInt8)) &&((x.2.2.1==([]:List UInt8)) &&((x.2.2.2.1==([]:List UInt8)) &&((x.2.2.2.2.1==0) &&((x.2.2.2.2.2==false) &&true)))))),())
 else
 bif (x.1==6) then
 some (((x.1==x.1) &&((x.2.1==([]:List UInt8)) &&((x.2.2.1==([]:List UInt8)) &&((x.2.2.2.1==([]:List UInt8)) &&((x.2.2.2.2.1==0) &&((x.2.2.2.2.2==false) &&true)))))),())
 else
 bif (x.1==7) then
 Option.bind (bif ((x.1==x.1) &&((x.2.1==x.2.1) &&((x.2.2.1==x.2.2.1) &&((x.2.2.2.1==x.2.2.2.1) &&((x.2.2.2.2.1==x.2.2.2.2.1) &&((x.2.2.2.2.2==false) &&true)))))) then
 bif (aQ 1 x.2.2.2.2.1) then
 some (aQ x.2.2.2.2.1 5)
 else
 none
 else
 none) fun b1=>
 some (b1,())
 else
 none
noncomputable def AT:bu:=⟨30,[(true,fu)],[(false,.bool)],0,fun n x=>jz n x.1⟩
theorem Mg (n:Nat):aI Tryz.prog hint aG AT n:=
 aI.of (hk:=fun β=>(an.mk [] []).hk β) (sh:=aG) (fun m _=>ab.aK ab.nil m) (fun x=>by kernel_rfl)
noncomputable def sT:Tm:=⟨[(4,ac)],[],64,64,1000⟩
noncomputable def Ed:Tm:=⟨[(0,.one (.aC fu)),(1,ac),(6,.one (.all 64 117 (.cons am am) .any)),(7,ac)],[],64,65,1000⟩
noncomputable def eL:Nat->dz->Int->(List gt)->Int->Option mt
 |0,_,_,_,_=>none
 |n+1,t0,t1,t6,t7=>
 bif (aR t7 (len t0)) then
 bif (aQ 0 t7) then
 Option.bind (t0[(Int.toNat t7)]?) fun x48=>
 Option.bind (bif (x48.1==3) then
 some true
 else
 some (x48.1==5)) fun b50=>
 bif b50 then
 bif (room (((List.length t6)+(List.length ((x48.1,(0:Int)):: [])))*17)) then
 eL n t0 t1 (t6++((x48.1,0):: [])) (zal (t7+1))
 else none
 else
 Option.bind (bif (x48.1==7) then
 some true
 else
 some (x48.1==8)) fun b52=>
 bif b52 then
 bif ((aQ 0 (zal ((len t6) - 1))) &&(aR (zal ((len t6) - 1)) (len t6))) then
 Option.bind (t6[(Int.toNat (zal ((len t6) - 1)))]?) fun x53=>
 bif ((aQ 0 (zal ((len t6) - 1))) &&(aR (zal ((len t6) - 1)) (len t6))) then
 Option.bind (t6[(Int.toNat (zal ((len t6) - 1)))]?) fun x54=>
 eL n t0 t1 (List.set t6 (Int.toNat (zal ((len t6) - 1))) (x54.1,(zal (x53.2+1)))) (zal (t7+1))
 else none
 else none
 else
 bif ((aQ 0 (zal ((len t6) - 1))) &&(aR (zal ((len t6) - 1)) (len t6))) then
 Option.bind (t6[(Int.toNat (zal ((len t6) - 1)))]?) fun x55=>
 Option.bind (bif (x48.1==(zal (x55.1+1))) then
 bif (x55.1==3) then
 some true
 else
 none
 else
 none) fun b57=>
 bif (!b57) then
 none
 else
 bif ((aQ 0 (zal ((len t6) - 1))) &&(aQ (zal ((len t6) - 1)) (len t6))) then
 bif (((((Int.toNat (zal ((len t6) - 1))) - 0):Nat):Int)==0) then
 some (((zal (t7+1)),()),())
 else
 bif ((aQ 0 (zal (((((Int.toNat (zal ((len t6) - 1))) - 0):Nat):Int) - 1))) &&(aR (zal (((((Int.toNat (zal ((len t6) - 1))) - 0):Nat):Int) - 1)) ((((Int.toNat (zal ((len t6) - 1))) - 0):Nat):Int))) then
 Option.bind (t6[(0+(Int.toNat (zal (((((Int.toNat (zal ((len t6) - 1))) - 0):Nat):Int) - 1))))]?) fun x58=>
 bif ((aQ 0 (zal (((((Int.toNat (zal ((len t6) - 1))) - 0):Nat):Int) - 1))) &&(aR (zal (((((Int.toNat (zal ((len t6) - 1))) - 0):Nat):Int) - 1)) ((((Int.toNat (zal ((len t6) - 1))) - 0):Nat):Int))) then
 Option.bind (t6[(0+(Int.toNat (zal (((((Int.toNat (zal ((len t6) - 1))) - 0):Nat):Int) - 1))))]?) fun x59=>
 eL n t0 t1 (List.take ((Int.toNat (zal ((len t6) - 1))) - 0) (List.drop 0 (List.set t6 (0+(Int.toNat (zal (((((Int.toNat (zal ((len t6) - 1))) - 0):Nat):Int) - 1)))) (x59.1,(zal (x58.2+1)))))) (zal (t7+1))
 else none
 else none
 else none
 else none
 else none
 else
 none
noncomputable def Bc:aM:=⟨31,10,none,Ed,[(.ret,sT)],1,fun n x=>eL n x.1.1 x.1.2.1 x.1.2.2.1 x.1.2.2.2.1,[],[]⟩
theorem vQ:sT.ok Tryz.prog hint:=Tm.dq rfl
theorem tG:Ed.ok Tryz.prog hint:=Tm.dq rfl
theorem Nl:∀ n,ao Tryz.prog hint aG Bc n:=
 ao.of (hk:=fun β=>(an.mk [] []).hk β) (sh:=aG) (aL.of (by kernel_rfl)) tG ⟨⟨vQ,zai _,zai _⟩,trivial⟩ (fun m=>ab.aK ab.nil m)
  (fun _=>by kernel_rfl) (fun m x=>by kernel_rfl)
noncomputable def Kf (n:Nat) (l:List (Int×d6)) (i:Int):Option dg:=
 Option.bind (bif (aR i 0) then
 none
 else
 some (aQ (len l) i)) fun b1=>
 bif b1 then
 none
 else
 bif (aQ 0 i) then
 Option.bind (l[(Int.toNat i)]?) fun x2=>
 Option.bind (bif (x2.1==7) then
 none
 else
 some (x2.1==8)) fun b4=>
 bif b4 then
 none
 else
 Option.bind (bif (x2.1==3) then
 some true
 else
 some (x2.1==5)) fun b6=>
 bif (!b6) then
 none
 else
 Option.bind (eL n l i [] i) fun y60=>
 some (y60.1.1,())
 else none
noncomputable def Hn:bu:=⟨31,[(false,(.aJ fu)),(false,am)],[(false,am)],1,fun n x=>Kf n x.1 x.2.1⟩
theorem Rg (n:Nat):aI Tryz.prog hint aG Hn n:=
 aI.of (hk:=fun β=>(an.mk [] [Bc]).hk β) (sh:=aG) (fun m _=>ab.aK (ab.nil.loop Nl tG) m) (fun x=>by kernel_rfl)
noncomputable def qZ:Tm:=⟨[(0,.one (.aC fu))],[],64,64,1000⟩
noncomputable def K7:Tm:=⟨[(0,.one (.aC fu)),(7,.one (.aC fu)),(8,ac),(9,ac)],[],64,64,1000⟩
noncomputable def Bk:Nat->dz->dz->Int->Int->Option ((dz×Unit)×Unit)
 |0,_,_,_,_=>none
 |n+1,t0,t7,t8,t9=>
 bif (aR t9 t8) then
 bif (aQ 0 t9) then
 Option.bind (t7[(Int.toNat t9)]?) fun x4=>
 Option.bind (jz (n+1) (x4.1,(x4.2.1,(x4.2.2.1,(x4.2.2.2.1,(x4.2.2.2.2.1,x4.2.2.2.2.2)))))) fun y5=>
 bif (!y5.1) then
 none
 else
 Bk n t0 t7 t8 (zal (t9+1))
 else none
 else
 some ((t0,()),())
noncomputable def Fe:aM:=⟨16,2,none,K7,[(.exit 0,qZ)],1,fun n x=>Bk n x.1.1 x.1.2.1 x.1.2.2.1 x.1.2.2.2.1,[],[]⟩
theorem ui:qZ.ok Tryz.prog hint:=Tm.dq rfl
theorem xU:K7.ok Tryz.prog hint:=Tm.dq rfl
theorem RP:∀ n,ao Tryz.prog hint aG Fe n:=
 ao.of (hk:=fun β=>(an.mk [AT] []).hk β) (sh:=aG) (aL.of (by kernel_rfl)) xU ⟨⟨ui,zai _,zai _⟩,trivial⟩ (fun m=>ab.aK (ab.nil.fn Mg) m)
  (fun _=>by kernel_rfl) (fun m x=>by kernel_rfl)
noncomputable def pj:Tm:=⟨[],[],64,64,2001⟩
noncomputable def KV:Tm:=⟨[(0,.one (.aC fu)),(5,ac)],[],64,64,2001⟩
noncomputable def Bd:Nat->dz->Int->Option d9
 |0,_,_=>none
 |n+1,t0,t5=>
 bif (aR t5 (len t0)) then
 bif (aQ 0 t5) then
 Option.bind (t0[(Int.toNat t5)]?) fun x17=>
 bif (x17.1 !=1) then
 none
 else
 Option.bind (Kf (n+1) t0 (zal (t5+1))) fun y18=>
 Option.bind (bif (y18.1==(zal (t5+1))) then
 none
 else
 bif (aQ (len t0) y18.1) then
 none
 else
 bif (aQ 0 y18.1) then
 Option.bind (t0[(Int.toNat y18.1)]?) fun x20=>
 some (x20.1 !=2)
 else none) fun b21=>
 bif b21 then
 none
 else
 Bd n t0 (zal (y18.1+1))
 else none
 else
 some ((),())
noncomputable def EL:aM:=⟨16,8,none,KV,[(.exit 2,pj)],2,fun n x=>Bd n x.1.1 x.1.2.1,[],[]⟩
theorem uj:pj.ok Tryz.prog hint:=Tm.dq rfl
theorem vR:KV.ok Tryz.prog hint:=Tm.dq rfl
theorem Qu:∀ n,ao Tryz.prog hint aG EL n:=
 ao.of (hk:=fun β=>(an.mk [Hn] []).hk β) (sh:=aG) (aL.of (by kernel_rfl)) vR ⟨⟨uj,zai _,zai _⟩,trivial⟩ (fun m=>ab.aK (ab.nil.fn Rg) m)
  (fun _=>by kernel_rfl) (fun m x=>by kernel_rfl)
noncomputable def vg (n:Nat) (l:List (Int×d6)):Option d8:=
 Option.bind (Bk (n+1) l l (len l) 0) fun y6=>
 Option.bind (Bd n y6.1.1 0) fun _=>
 some (true,())
noncomputable def xw:bu:=⟨16,[(false,(.aJ fu))],[(false,.bool)],2,fun n x=>vg n x.1⟩
theorem J6 (n:Nat):aI Tryz.prog hint aG xw n:=
 aI.of (hk:=fun β=>(an.mk [] [EL,Fe]).hk β) (sh:=aG) (fun m _=>ab.aK ((ab.nil.loop RP xU).loop Qu vR) m) (fun x=>by kernel_rfl)
noncomputable def pg:Tm:=⟨[(6,.one (.fix (TV.ptr 64 0))),(8,.one (.fix (TV.ptr 65 0)))],[(64,.cells 26 [.fix (TV.raw (Go.Value.slice (Option.none) 0 0)),.fix (TV.raw (Go.Value.slice (Option.none) 0 0))] true),(65,.cells 57 [.gZ 66 38 km 3 3 am .any,.all 67 3 am .ex,.fix (TV.raw (Go.Value.map (Option.none))),.all 68 3 am .any,be,be] true)],66,69,1002⟩
noncomputable def yz:Tm:=⟨[(6,.one (.fix (TV.ptr 64 0))),(7,ac)],[(64,.cells 26 [.fix (TV.raw (Go.Value.slice (Option.none) 0 0)),.fix (TV.raw (Go.Value.slice (Option.none) 0 0))] true),(65,.cells 57 [.gZ 66 38 km 3 3 am .any,.all 67 3 am .ex,.fix (TV.raw (Go.Value.map (Option.none))),.all 68 3 am .any,be,be] true)],66,69,1002⟩
noncomputable def K4:Tm:=⟨[(6,.one (.fix (TV.ptr 64 0))),(8,.one (.fix (TV.ptr 65 0))),(22,.one (.aC fu)),(23,ac),(24,ac)],[(64,.cells 26 [.fix (TV.raw (Go.Value.slice (Option.none) 0 0)),.fix (TV.raw (Go.Value.slice (Option.none) 0 0))] true),(65,.cells 57 [.gZ 66 38 km 3 3 am .any,.all 67 3 am .ex,.fix (TV.raw (Go.Value.map (Option.none))),.all 68 3 am .any,be,be] true)],66,69,1002⟩
noncomputable def cZ:Nat->dz->Int->Int->rj->bv->bv->Int->Int->Option ((ip×(ip×((rj×(bv×(Unit×(bv×g7))))×Unit)))⊕((Unit×dg)×(ip×((rj×(bv×(Unit×(bv×g7))))×Unit))))
 |0,_,_,_,_,_,_,_,_=>none
 |n+1,t22,t23,t24,c65_0,c65_1,c65_3,c65_4,c65_5=>
 bif (aR t24 t23) then
 bif (aQ 0 t24) then
 Option.bind (t22[(Int.toNat t24)]?) fun x17=>
 bif (x17.1==1) then
 cZ n t22 t23 (zal (t24+1)) c65_0 c65_1 c65_3 c65_4 c65_5
 else
 bif (x17.1==3) then
 bif (aQ c65_4 (len c65_3)) then
 some (.inr (((),(8,())),(((),((),())),((c65_0,(c65_1,((),(c65_3,(c65_4,(c65_5,())))))),()))))
 else
 bif (aQ c65_5 (len c65_0)) then
 some (.inr (((),(9,())),(((),((),())),((c65_0,(c65_1,((),(c65_3,(c65_4,(c65_5,())))))),()))))
 else
 bif (room (((List.length c65_0)+(List.length (((2:Int),(x17.2.2.1,(([]:List UInt8),(([]:List Int),false)))):: [])))*73)) then
 bif ((len c65_3)==0) then
 bif (room (((List.length c65_1)+(List.length ((len c65_0)::([]:List Int))))*9)) then
 bif (!(x17.2.2.2.1==([]:List UInt8))) then
 none
 else
 bif (room (((List.length c65_3)+(List.length ((len c65_0)::([]:List Int))))*9)) then
 cZ n t22 t23 (zal (t24+1)) (c65_0++((2,(x17.2.2.1,(([]:List UInt8),(([]:List Int),false)))):: [])) (c65_1++((len c65_0)::([]:List Int))) (c65_3++((len c65_0)::([]:List Int))) c65_4 c65_5
 else none
 else none
 else
 bif ((aQ 0 (zal ((len c65_3) - 1))) &&(aR (zal ((len c65_3) - 1)) (len c65_3))) then
 Option.bind (c65_3[(Int.toNat (zal ((len c65_3) - 1)))]?) fun x18=>
 bif ((aQ 0 x18) &&(aR x18 (len (c65_0++((2,(x17.2.2.1,(([]:List UInt8),(([]:List Int),false)))):: []))))) then
 Option.bind ((c65_0++((2,(x17.2.2.1,(([]:List UInt8),(([]:List Int),false)))):: []))[(Int.toNat x18)]?) fun x19=>
 bif (room (((List.length x19.2.2.2.1)+(List.length ((len c65_0)::([]:List Int))))*9)) then
 bif (Nat.beq (Int.toNat x18) (Int.toNat x18)) then
 bif (!(x17.2.2.2.1==([]:List UInt8))) then
 none
 else
 bif (room (((List.length c65_3)+(List.length ((len c65_0)::([]:List Int))))*9)) then
 cZ n t22 t23 (zal (t24+1)) (List.set (c65_0++((2,(x17.2.2.1,(([]:List UInt8),(([]:List Int),false)))):: [])) (Int.toNat x18) (x19.1,(x19.2.1,(x19.2.2.1,((x19.2.2.2.1++((len c65_0)::([]:List Int))),x19.2.2.2.2))))) c65_1 (c65_3++((len c65_0)::([]:List Int))) c65_4 c65_5
 else none
 else none
 else none
 else none
 else none
 else none
 else
 bif (x17.1==5) then
 none
 else
 bif (x17.1==4) then
 bif ((aQ 0 (zal ((len c65_3) - 1))) &&(aQ (zal ((len c65_3) - 1)) (len c65_3))) then
 cZ n t22 t23 (zal (t24+1)) c65_0 c65_1 (List.take ((Int.toNat (zal ((len c65_3) - 1))) - 0) (List.drop 0 c65_3)) c65_4 c65_5
 else none
 else
 bif (x17.1==6) then
 bif ((aQ 0 (zal ((len c65_3) - 1))) &&(aQ (zal ((len c65_3) - 1)) (len c65_3))) then
 cZ n t22 t23 (zal (t24+1)) c65_0 c65_1 (List.take ((Int.toNat (zal ((len c65_3) - 1))) - 0) (List.drop 0 c65_3)) c65_4 c65_5
 else none
 else
 bif (x17.1==7) then
 bif (aQ c65_5 (len c65_0)) then
 some (.inr (((),(9,())),(((),((),())),((c65_0,(c65_1,((),(c65_3,(c65_4,(c65_5,())))))),()))))
 else
 bif (room (((List.length c65_0)+(List.length (((1:Int),(x17.2.2.1,(x17.2.1,(([]:List Int),(x17.2.2.2.2.1==(1:Int)))))):: [])))*73)) then
 bif ((len c65_3)==0) then
 bif (room (((List.length c65_1)+(List.length ((len c65_0)::([]:List Int))))*9)) then
 bif (!(x17.2.2.2.1==([]:List UInt8))) then
 none
 else
 cZ n t22 t23 (zal (t24+1)) (c65_0++((1,(x17.2.2.1,(x17.2.1,(([]:List Int),(x17.2.2.2.2.1==1))))):: [])) (c65_1++((len c65_0)::([]:List Int))) c65_3 c65_4 c65_5
 else none
 else
 bif ((aQ 0 (zal ((len c65_3) - 1))) &&(aR (zal ((len c65_3) - 1)) (len c65_3))) then
 Option.bind (c65_3[(Int.toNat (zal ((len c65_3) - 1)))]?) fun x20=>
 bif ((aQ 0 x20) &&(aR x20 (len (c65_0++((1,(x17.2.2.1,(x17.2.1,(([]:List Int),(x17.2.2.2.2.1==1))))):: []))))) then
 Option.bind ((c65_0++((1,(x17.2.2.1,(x17.2.1,(([]:List Int),(x17.2.2.2.2.1==1))))):: []))[(Int.toNat x20)]?) fun x21=>
 bif (room (((List.length x21.2.2.2.1)+(List.length ((len c65_0)::([]:List Int))))*9)) then
 bif (Nat.beq (Int.toNat x20) (Int.toNat x20)) then
 bif (!(x17.2.2.2.1==([]:List UInt8))) then
 none
 else
 cZ n t22 t23 (zal (t24+1)) (List.set (c65_0++((1,(x17.2.2.1,(x17.2.1,(([]:List Int),(x17.2.2.2.2.1==1))))):: [])) (Int.toNat x20) (x21.1,(x21.2.1,(x21.2.2.1,((x21.2.2.2.1++((len c65_0)::([]:List Int))),x21.2.2.2.2))))) c65_1 c65_3 c65_4 c65_5
 else none
 else none
 else none
 else none
 else none
 else
 bif (x17.1==8) then
 none
 else
 cZ n t22 t23 (zal (t24+1)) c65_0 c65_1 c65_3 c65_4 c65_5
 else none
 else
 some (.inl (((),((),())),(((),((),())),((c65_0,(c65_1,((),(c65_3,(c65_4,(c65_5,())))))),()))))
noncomputable def G4:aM:=⟨10,5,none,K4,[(.exit 0,pg),(.ret,yz)],4,fun n x=>cZ n x.1.2.2.1 x.1.2.2.2.1 x.1.2.2.2.2.1 x.2.2.1.1 x.2.2.1.2.1 x.2.2.1.2.2.2.1 x.2.2.1.2.2.2.2.1 x.2.2.1.2.2.2.2.2.1,[],[]⟩
theorem uE:pg.ok Tryz.prog hint:=Tm.dq rfl
theorem yO:yz.ok Tryz.prog hint:=Tm.dq rfl
theorem vY:K4.ok Tryz.prog hint:=Tm.dq rfl
theorem QE:∀ n,ao Tryz.prog hint aG G4 n:=
 ao.of (hk:=fun β=>(an.mk [] []).hk β) (sh:=aG) (aL.of (by kernel_rfl)) vY ⟨⟨uE,zai _,zai _⟩,⟨yO,zai _,zai _⟩,trivial⟩ (fun m=>ab.aK ab.nil m)
  (fun _=>by kernel_rfl) (fun m x=>by kernel_rfl)
noncomputable def sj (n:Nat) (l:List (Int×d6)) (depth:Int) (nodes:Int):Option (dl×dg):=
 Option.bind (vg (n+1) l) fun y0=>
 bif (!y0.1) then
 none
 else
 Option.bind (cZ n l (len l) 0 [] ([]:List Int) ([]:List Int) (bif (aR 200 depth) then 200 else depth) (bif (aR 20000 nodes) then 20000 else nodes)) fun y22=>
 match y22 with
 | .inl y23=>
 some ((y23.2.2.1.1,y23.2.2.1.2.1),0,())
 | .inr y24=>
 some (([],([]:List Int)),y24.1.2.1,())
noncomputable def AU:bu:=⟨10,[(false,(.aJ fu)),(false,am),(false,am)],[(true,(.cons (.aJ km) (.aJ am))),(false,am)],4,fun n x=>sj n x.1 x.2.1 x.2.2.1⟩
theorem M5 (n:Nat):aI Tryz.prog hint aG AU n:=
 aI.of (hk:=fun β=>(an.mk [xw] [G4]).hk β) (sh:=aG) (fun m _=>ab.aK ((ab.nil.fn J6).loop QE vY) m) (fun x=>by kernel_rfl)
set_option maxRecDepth 100000
noncomputable def load (n:Nat) (b:List UInt8) (l:(Int×gt)) (sch:Int):Option (dl×dg):=
 bif (aR (bif (aR 1048576 (bif (aR 0 l.1) then l.1 else 0)) then 1048576 else (bif (aR 0 l.1) then l.1 else 0)) (len b)) then
 some (([],([]:List Int)),3,())
 else
 Option.bind (events n b) fun y0=>
 bif (y0.2.1 !=0) then
 some (([],([]:List Int)),y0.2.1,())
 else
 Option.bind (sj (n+6) y0.1 l.2.1 l.2.2) fun y1=>
 bif (y1.2.1 !=0) then
 some (([],([]:List Int)),y1.2.1,())
 else
 Option.bind (resolved (n+2) (y1.1.1,y1.1.2) sch) fun y2=>
 Option.bind (checked (n+1) (y2.1.1,y2.1.2)) fun y3=>
 bif (y3.1 !=0) then
 none
 else
 some ((y2.1.1,y2.1.2),0,())
noncomputable def Ld:bu:=⟨6,[(false,(.aJ .byte)),(true,(.cons am (.cons am am))),(false,am)],[(true,(.cons (.aJ km) (.aJ am))),(false,am)],11,fun n x=>load n x.1 x.2.1 x.2.2.1⟩
theorem Uv (n:Nat):aI Tryz.prog hint aG Ld n:=
 aI.of (hk:=fun β=>(an.mk [vp,tH,AU,Ad] []).hk β) (sh:=aG) (fun m _=>ab.aK ((((ab.nil.fn MM).fn M5).fn EK).fn IK) m) (fun x=>by kernel_rfl)
noncomputable def sZ:Tm:=⟨[(0,ac),(1,ac),(2,.one (.bool)),(8,.one (.str)),(9,.one (.str))],[],64,64,1000⟩
noncomputable def So:Tm:=⟨[(0,ac),(1,ac),(2,.one (.bool)),(8,.one (.str)),(9,.one (.str)),(10,ac)],[],64,64,1000⟩
noncomputable def ue:Nat->Int->Int->Bool->d7->d7->Int->Option ((Int×(Int×(Bool×(d7×jp))))×Unit)
 |0,_,_,_,_,_,_=>none
 |n+1,t0,t1,t2,t8,t9,t10=>
 bif (aR t10 t0) then
 bif t2 then
 bif (room ((List.length t8)+(List.length ([91]:List UInt8)))) then
 bif (room ((List.length t9)+(List.length ([93]:List UInt8)))) then
 ue n t0 t1 t2 (t8++([91]:List UInt8)) (t9++([93]:List UInt8)) (zal (t10+1))
 else none
 else none
 else
 bif (room ((List.length t8)+(List.length ([45,32]:List UInt8)))) then
 ue n t0 t1 t2 (t8++([45,32]:List UInt8)) t9 (zal (t10+1))
 else none
 else
 some ((t0,(t1,(t2,(t8,(t9,()))))),())
noncomputable def KF:aM:=⟨3,7,none,So,[(.exit 0,sZ)],0,fun n x=>ue n x.1.1 x.1.2.1 x.1.2.2.1 x.1.2.2.2.1 x.1.2.2.2.2.1 x.1.2.2.2.2.2.1,[],[]⟩
theorem wy:sZ.ok Tryz.prog hint:=Tm.dq rfl
theorem AO:So.ok Tryz.prog hint:=Tm.dq rfl
theorem S3:∀ n,ao Tryz.prog hint aG KF n:=
 ao.of (hk:=fun β=>(an.mk [] []).hk β) (sh:=aG) (aL.of (by kernel_rfl)) AO ⟨⟨wy,zai _,zai _⟩,trivial⟩ (fun m=>ab.aK ab.nil m)
  (fun _=>by kernel_rfl) (fun m x=>by kernel_rfl)
noncomputable def gM (n:Nat) (k:Int) (depth:Int) (flow:Bool):Option d8:=
 Option.bind (bif (aR k 1) then
 some true
 else
 bif (aR 230 k) then
 some true
 else
 bif (aR depth 0) then
 some true
 else
 some (aR 300 depth)) fun b1=>
 bif b1 then
 some (true,())
 else
 Option.bind (ue (n+12) k depth flow ([]:List UInt8) ([]:List UInt8) 0) fun y2=>
 bif (room ((List.length y2.1.2.2.2.1)+(List.length y2.1.2.2.2.2.1))) then
 Option.bind (load n (y2.1.2.2.2.1++y2.1.2.2.2.2.1) (1048576,(y2.1.2.1,20000)) 2) fun y3=>
 Option.bind (bif (aR y2.1.2.1 y2.1.1) then
 some true
 else
 some (aR 200 y2.1.1)) fun b5=>
 bif b5 then
 bif (y3.2.1==8) then
 some (((len y3.1.1)==0),())
 else
 none
 else
 bif y2.1.2.2.1 then
 bif (y3.2.1==0) then
 some (((len y3.1.1)==y2.1.1),())
 else
 none
 else
 bif (y3.2.1==0) then
 some (((len y3.1.1)==(zal (y2.1.1+1))),())
 else
 none
 else none
noncomputable def lQ:bu:=⟨3,[(false,am),(false,am),(false,.bool)],[(false,.bool)],12,fun n x=>gM n x.1 x.2.1 x.2.2.1⟩
theorem Fz (n:Nat):aI Tryz.prog hint aG lQ n:=
 aI.of (hk:=fun β=>(an.mk [Ld] [KF]).hk β) (sh:=aG) (fun m _=>ab.aK ((ab.nil.loop S3 AO).fn Uv) m) (fun x=>by kernel_rfl)
theorem bS {α β:Type} {a:Option α} {v:α} {f:α->Option β} {r:Option β} (h:a=some v) (h2:f v=r):Option.bind a f=r:=by subst h;exact h2
theorem cT {α:Type} {b:Bool} {x y r:α} (h:b=true) (h2:x=r):cond b x y=r:=by subst h;exact h2
theorem cF {α:Type} {b:Bool} {x y r:α} (h:b=false) (h2:y=r):cond b x y=r:=by subst h;exact h2
theorem cr {n:Nat} (h:n<=1000000):room n=true:=u7 (Nat.le_trans h (by decide))
set_option maxRecDepth 10000
theorem K9 {α:Type} {l r:List α} {i:Nat} (h:l.drop i=r) (k:Nat):l[i+k]? =r[k]? :=by rw [←h,List.getElem?_drop]
theorem ZJ (a b c:Int):(bif Go.Iv.aQ a c then some (Go.Iv.aQ c b) else some Bool.false)=some (decide (a<=c/\c<=b)):=by
 rw [kI,kI];by_cases h1:a<=c<;>by_cases h2:c<=b<;>simp [h1,h2]
theorem YZ (b c:Bool):(bif b then some true else some c:Option Bool)=some (b ||c):=by cases b<;>rfl
theorem ie (a b:Int):(a==b)=decide (a=b):=by rw [Bool.eq_iff_iff];simp
theorem JC (n:Nat) (c:Int) (h1:32<=c) (h2:c<=126):print n c=some (true,()):=by
 unfold print;have a1:decide (c=9)=false:=decide_eq_false (by omega);have a2:decide (c=10)=false:=decide_eq_false (by omega);have a3:decide (c=13)=false:=decide_eq_false (by omega);have a4:decide (c=133)=false:=decide_eq_false (by omega);have a5:decide (32<=c/\c<=126)=true:=decide_eq_true ⟨h1,h2⟩;simp only [ZJ,zaa,ie,a1,a2,a3,a4,a5,zab,zac]
def Ol (c:Int):Bool:=decide (c=32∨c=9)
theorem fc (n:Nat) (c:Int):blank n c=some (Ol c,()):=by
 unfold blank Ol;simp only [YZ,zaa,ie,Bool.decide_or]
theorem Wq (a b:Int):(a !=b)=decide (a≠b):=by rw [Bool.eq_iff_iff];simp
set_option maxRecDepth 10000
theorem eZ (n:Nat) (T:List Int) (k:Nat) (hk:k<=T.length) (hT:T.length<1000000000):qf n ((0:Int),(k:Int)) [((0:Int),T)]=some ((T.drop k,()),()):=by
 unfold qf;have e1:len [((0:Int),T)]=1:=rfl;have e2:([((0:Int),T)]:List i6)[Int.toNat 0]? =some (0,T):=rfl;have e3:zal ((k:Int) - 0)=(k:Int):=by rw [bw]<;>omega
 have e4:(Int.toNat (k:Int))=k:=rfl
 simp only [bC (show (0:Int)<=0 by omega),e1,jL (show (0:Int)<1 by omega),bC (show (0:Int)<=(k:Int) by omega),bV (show (0:Int)<=0 by omega),zac,zab,e2,zaa,e3,
  bC (show (k:Int)<=len T by unfold len;omega),bV (show (0:Int)<=(k:Int) by omega),bV (show (k:Int)<=len T by unfold len;omega),Bool.and_self,e4]
 rw [List.take_of_length_le (by simp)]
def hd (c:Int):List Int->Bool
 | []=>false
 |x::_=>x==c
theorem kf (n:Nat) (T:List Int) (k:Nat) (c:Int) (hk:k<T.length) (hT:T.length<1000000000):Wj n ((0:Int),(k:Int)) c [((0:Int),T)]=some ((hd c (T.drop k),()),()):=by
 unfold Wj;rw [eZ n T k (Nat.le_of_lt hk) hT];simp only [zaa];cases hq:T.drop k with
 |nil=>exact absurd (List.drop_eq_nil_iff.1 hq) (by omega)
 |cons x r=>
  have:aR (0:Int) (len (x::r))=true:=bD (by unfold len;simp);simp only [this,zac,List.getElem?_cons_zero,zaa,hd]
theorem MV (n:Nat) (l:List Int) (a b:Int) (h:∀ c,l.head? =some c->Ol c=false):Cs (n+1) l a b 0 0=some (((),((),(l,()))),((a,(b,())),((0,(0,())),()))):=by
 cases l with
 |nil=>rfl
 |cons x r=>
  have:aR (0:Int) (len (x::r))=true:=bD (by unfold len;simp);simp only [Cs,this,zac,List.getElem?_cons_zero,zaa,fc,h x rfl,zab]
theorem yG (n:Nat) (T:List Int) (k:Nat) (hk:k<=T.length) (hT:T.length<1000000000) (h:∀ c,(T.drop k).head? =some c->Ol c=false):xM (n+1) ((0:Int),(k:Int)) [((0:Int),T)]=some ((((0:Int),(k:Int)),(T.drop k,())),()):=by
 unfold xM;have e1:len [((0:Int),T)]=1:=rfl;have e2:([((0:Int),T)]:List i6)[Int.toNat 0]? =some (0,T):=rfl;simp only [bV (show (0:Int)<=0 by omega),e1,bD (show (0:Int)<1 by omega),zac,e2,zaa,bC (show (0:Int)<=(k:Int) by omega),zab,eZ (n+1) T k hk hT,MV n (T.drop k) _ _ h]
theorem zf (n:Nat) (p:Int×Int) (c:Int) (r:List Int) (L:List i6) (h:c≠35):oS n p (c::r) L=some ((false,()),()):=by
 unfold oS;have e1:((len (c::r))==(0:Int))=false:=by unfold len;rw [ie];exact decide_eq_false (by simp;omega)
 have e2:(c !=(35:Int))=true:=by rw [Wq];exact decide_eq_true h
 simp only [e1,zab,List.getElem?_cons_zero,zaa,e2,zac]
def there (T:List Int) (k:Nat):Prop:=∃ c r,T.drop k=c::r/\Ol c=false/\c≠35
theorem there.le {T:List Int} {k:Nat} (h:there T k):k<T.length:=by
 obtain ⟨c,r,h,_⟩:=h;have:=congrArg List.length h;simp at this;omega
theorem Gg (n:Nat) (T:List Int) (k:Nat) (nn:Int) (hT:T.length<1000000000) (h:there T k):XB (n+1) ((0:Int),(k:Int)) [((0:Int),T)] nn=some ((((0:Int),(k:Int)),(true,())),()):=by
 have hk:=Nat.le_of_lt h.le;obtain ⟨c,r,hd,hb,hc⟩:=h;have hp:∀ m,xM (m+1) ((0:Int),(k:Int)) [((0:Int),T)]=some ((((0:Int),(k:Int)),(c::r,())),()):=fun m=>by
  rw [yG m T k hk hT (by rw [hd];intro x hx;cases hx;exact hb),hd]
 have e1:aR (0:Int) (len (c::r))=true:=bD (by unfold len;simp);unfold XB;simp only [Jh,show n+2=(n+1)+1 from rfl,hp,zaa,e1,zac,zf _ _ c r _ hc,Bool.not_false,Bool.not_true,zab,bC (show (0:Int)<=0 by omega)]
theorem kz (n:Nat) (T:List Int) (k:Nat) (nn:Int) (hT:T.length<1000000000) (h:there T k):yE (n+1) ((0:Int),(k:Int)) [((0:Int),T)] nn=some (.inl ((((0:Int),(k:Int)),()),())):=by
 unfold yE;simp only [Gg n T k nn hT h,zaa,Bool.not_true,zab]
theorem k8 (n:Nat) (T:List Int) (k:Nat) (nn c:Int) (r:List Int) (hT:T.length<1000000000) (hd:T.drop k=c::r) (hb:Ol c=false) (h1:c≠35) (h2:c≠38) (h3:c≠33):
  ph (n+1) ((0:Int),(k:Int)) [((0:Int),T)] nn=some (.inl (((([],([],(0,0))),(((0:Int),(k:Int)),(true,()))),()))):=by
 have h:there T k:=⟨c,r,hd,hb,h1⟩;have e1:((len (c::r))==(0:Int))=false:=by unfold len;rw [ie];exact decide_eq_false (by simp;omega)
 have e2:(c !=(38:Int))=true:=by rw [Wq];exact decide_eq_true h2
 have e3:(c !=(33:Int))=true:=by rw [Wq];exact decide_eq_true h3
 unfold ph;simp only [Gg n T k nn hT h,zaa,show n+1+2=(n+2)+1 from rfl,IX,zac,eZ _ T k (Nat.le_of_lt h.le) hT,hd,e1,zab,List.getElem?_cons_zero,e2,e3]
theorem lF (n:Nat) (T:List Int) (k:Nat) (c x:Int) (r:List Int) (hT:T.length<1000000000) (hd:T.drop k=x::r) (hx:x≠c):yk n ((0:Int),(k:Int)) c [((0:Int),T)]=some ((false,()),()):=by
 have hk:k<=T.length:=by have:=congrArg List.length hd;simp at this;omega
 have e1:aR (0:Int) (len (x::r))=true:=bD (by unfold len;simp);have e2:(x==c)=false:=by rw [ie];exact decide_eq_false hx
 unfold yk;simp only [eZ _ T k hk hT,hd,zaa,e1,zac,List.getElem?_cons_zero,e2,zab]
theorem J2 (n:Nat) (T:List Int) (k:Nat) (key:gt×Bool) (x:Int) (r:List Int) (hT:T.length<1000000000) (hdr:T.drop k=x::r) (hx:x≠58):Li n ((0:Int),(k:Int)) key [((0:Int),T)]=some ((false,()),()):=by
 have hk:k<T.length:=by have:=congrArg List.length hdr;simp at this;omega
 unfold Li;have e2:hd 58 (T.drop k)=false:=by rw [hdr];show (x==58)=false;rw [ie];exact decide_eq_false hx
 simp only [lF n T k 58 x r hT hdr hx,zaa,zab,kf _ T k 58 hk hT,e2]
theorem PJ (n:Nat) (op:List Int) (h:op.length<200):AV n 0 0 op=some (.inl ((),())):=by
 unfold AV;have e1:zal (zal ((0:Int)+len op)+0)=(op.length:Int):=by
  unfold len;rw [bw (x:=0+(op.length:Int)) (by omega) (by omega),bw (by omega) (by omega)];omega
 simp only [e1,jL (show (0:Int)<200 by omega),jL (show (op.length:Int)<200 by omega),zab]
theorem Wx (n:Nat) (op:List Int) (h:200<=op.length) (h2:op.length<1000000):AV n 0 0 op=some (.inr 8):=by
 unfold AV;have e1:zal (zal ((0:Int)+len op)+0)=(op.length:Int):=by
  unfold len;rw [bw (x:=0+(op.length:Int)) (by omega) (by omega),bw (by omega) (by omega)];omega
 simp only [e1,jL (show (0:Int)<200 by omega),bV (show (200:Int)<=(op.length:Int) by omega),zab,zac]
set_option maxRecDepth 10000
abbrev xV:=List (Int×d6)
def sS:Int×d6:=(3,([],([],([],(0,true)))))
def sE:Int×d6:=(4,([],([],([],(0,false)))))
theorem oJ (ev:xV) (he:ev.length<10000) (x):(room (((List.length ev)+(List.length (x::([]:xV))))*73))=true:=cr (by simp;omega)
theorem XW (l:List Int) (x:Int) (h:l.length<100000):List.take ((Int.toNat (zal ((len (l++x:: [])) - (1:Int)))) - 0) (List.drop 0 (l++x:: []))=l:=by
 have:zal ((len (l++x:: [])) - (1:Int))=(l.length:Int):=by
  unfold len;simp;rw [bw]<;>omega
 rw [this];simp
theorem AZ (d m:Nat) (T:List Int) (k k':Nat) (x:Int) (r:List Int) (c1:Int) (ops:List Int) (ev ev':xV) (hT:T.length<100000) (hd:T.drop k=91::x::r) (hb:Ol x=false) (hx:x≠35)
  (he:ev.length<10000) (he':ev'.length<10000) (ho:ops.length<200)
  (hl:jA (dD d) m (3:Int) (93:Int) [((0:Int),T)] c1 true 0 (ops++((3:Int):: [])) (ev++(sS:: [])) (0:Int) (0:Int) 0 ((k+1:Nat):Int)
   =some (.inl (((),((),(3,((),())))),(([((0:Int),T)],(c1,(true,(0,(ops++ [3],(ev',())))))),((0,(0,())),((0,((k':Int),())),())))))) (hk':k'<100000):
  dD (d+1) (m+7) ((0:Int),(k:Int)) [((0:Int),T)] c1 true 0 ops ev=some (.inl ((((((0:Int),((k'+1:Nat):Int)),true),()),(([((0:Int),T)],(c1,(true,(0,(ops,(ev'++ [sE],())))))),())))):=by
 have hk:k+2+r.length=T.length:=by have:=congrArg List.length hd;simp at this;omega
 have hd1:T.drop (k+1)=x::r:=by rw [←zah,hd];rfl
 rw [dD];refine cT (by simp) ?_;rw [show m+7 - 7=m from rfl];unfold qW;refine bS (k8 (m+1) T k c1 91 (x::r) (by omega) hd (by decide) (by decide) (by decide) (by decide)) ?_;refine bS (eZ _ T k (by omega) (by omega)) ?_;rw [hd];refine cF rfl ?_;have e1:aR (0:Int) (len (91::x::r))=true:=bD (by unfold len;simp;omega);refine bS (cT e1 rfl) ?_;refine cF rfl ?_;refine bS (cT e1 rfl) ?_;refine cF rfl ?_;refine bS (cT e1 rfl) ?_;refine cT rfl ?_;refine bS rfl ?_;refine cF rfl ?_;refine bS (PJ _ ops ho) ?_;refine cT (oJ ev he _) ?_;refine cT (cr (by simp;omega)) ?_;have e0:zal ((k:Int)+1)=((k+1:Nat):Int):=by rw [bw]<;>omega
 refine bS (v:= .inl ((((0:Int),((k+1:Nat):Int)),()),())) (by rw [e0];exact kz m T (k+1) c1 (by omega) ⟨x,r,hd1,hb,hx⟩) ?_;refine bS hl ?_;refine cT (oJ ev' he' _) ?_;refine cT (by
  have:zal ((len (ops++ [3])) - (1:Int))=(ops.length:Int):=by
   unfold len;simp;rw [bw]<;>omega
  show ((aQ (0:Int) (zal ((len (ops++ [3])) - (1:Int)))) &&(aQ (zal ((len (ops++ [3])) - (1:Int))) (len (ops++ [3]))))=true
  rw [this,bV (by omega),bV (by unfold len;simp;omega)];rfl) ?_
 have e2:zal ((k':Int)+1)=((k'+1:Nat):Int):=by rw [bw]<;>omega
 have e3:=XW ops 3 (by omega)
 show some (Sum.inl (((((0:Int),zal ((k':Int)+1)),true),()),(([((0:Int),T)],(c1,(true,(0,(List.take ((Int.toNat (zal ((len (ops++3:: [])) - (1:Int)))) - 0) (List.drop 0 (ops++3:: [])),(ev'++ [(zal (3+1),([],([],([],(0,false)))))],())))))),())))=_
 rw [e2,e3];rfl
theorem yu (d m:Nat) (T:List Int) (k:Nat) (x:Int) (r:List Int) (c1:Int) (ops:List Int) (ev:xV) (hT:T.length<100000) (hd:T.drop k=91::x::r) (hb:Ol x=false) (hx:x≠35)
  (he:ev.length<10000) (ho:ops.length<100000)
  (hl:ops.length<200->jA (dD d) m (3:Int) (93:Int) [((0:Int),T)] c1 true 0 (ops++((3:Int):: [])) (ev++(sS:: [])) (0:Int) (0:Int) 0 ((k+1:Nat):Int)=some (.inr ((8,()),()))):
  dD (d+1) (m+7) ((0:Int),(k:Int)) [((0:Int),T)] c1 true 0 ops ev=some (.inr 8):=by
 have hk:k+2+r.length=T.length:=by have:=congrArg List.length hd;simp at this;omega
 have hd1:T.drop (k+1)=x::r:=by rw [←zah,hd];rfl
 rw [dD];refine cT (by simp) ?_;rw [show m+7 - 7=m from rfl];unfold qW;refine bS (k8 (m+1) T k c1 91 (x::r) (by omega) hd (by decide) (by decide) (by decide) (by decide)) ?_;refine bS (eZ _ T k (by omega) (by omega)) ?_;rw [hd];refine cF rfl ?_;have e1:aR (0:Int) (len (91::x::r))=true:=bD (by unfold len;simp;omega);refine bS (cT e1 rfl) ?_;refine cF rfl ?_;refine bS (cT e1 rfl) ?_;refine cF rfl ?_;refine bS (cT e1 rfl) ?_;refine cT rfl ?_;refine bS rfl ?_;refine cF rfl ?_;by_cases h:ops.length<200
 ·refine bS (PJ _ ops h) ?_
  refine cT (oJ ev he _) ?_;refine cT (cr (by simp;omega)) ?_;have e0:zal ((k:Int)+1)=((k+1:Nat):Int):=by rw [bw]<;>omega
  refine bS (v:= .inl ((((0:Int),((k+1:Nat):Int)),()),())) (by rw [e0];exact kz m T (k+1) c1 (by omega) ⟨x,r,hd1,hb,hx⟩) ?_;refine bS (hl h) ?_;rfl
 ·refine bS (Wx _ ops (by omega) (by omega)) ?_
  rfl
theorem X2 (a b:Int) (h:b<=a) (h2:a - b<=1024):aR (1024:Int) (zal (a - b))=false:=bC (by rw [bw]<;>omega)
def gZ:Nat->List Int->List Int
 |0,s=>s
 |j+1,s=>91::gZ j (93::s)
theorem Cl (j:Nat) (s:List Int):∃ x r,gZ j (93::s)=x::r/\Ol x=false/\x≠35:=by
 cases j with
 |zero=>exact ⟨93,s,rfl,by decide,by decide⟩
 |succ j=>exact ⟨91,gZ j (93::93::s),rfl,by decide,by decide⟩
theorem kD (j:Nat):∀ s,(gZ j s).length=2*j+s.length:=by
 induction j with
 |zero=>intro s;simp [gZ]
 |succ j ih=>intro s;simp [gZ,ih];omega
theorem Rs (j:Nat):∀ s,(gZ j s).drop (2*j)=s:=by
 induction j with
 |zero=>intro s;rfl
 |succ j ih=>
  intro s
  show (91::gZ j (93::s)).drop (2*j+2)=s
  rw [List.drop_succ_cons,←zah,ih];rfl
theorem O4 (d m:Nat) (T:List Int) (hT:T.length<100000) (c1:Int) (ops:List Int) (k j:Nat) (s:List Int) (ev ev':xV) (hd:T.drop k=gZ (j+1) (93::s)) (hj:j<500)
  (h:dD d (m+5) ((0:Int),(k:Int)) [((0:Int),T)] c1 true 0 ops ev=some (.inl ((((((0:Int),((k+2*(j+1):Nat):Int)),true),()),(([((0:Int),T)],(c1,(true,(0,(ops,(ev',())))))),()))))):
  jA (dD d) (m+1) (3:Int) (93:Int) [((0:Int),T)] c1 true 0 ops ev 0 0 0 (k:Int)
   =some (.inl (((),((),(3,((),())))),(([((0:Int),T)],(c1,(true,(0,(ops,(ev',())))))),((0,(0,())),((0,(((k+2*(j+1):Nat):Int),())),()))))):=by
 have hk:k+2*(j+1)+1+s.length=T.length:=by have:=congrArg List.length hd;rw [kD] at this;simp at this;omega
 have hd1:T.drop (k+2*(j+1))=93::s:=by rw [←zah,hd,Rs]
 have hd0:T.drop k=91::gZ j (93::93::s):=hd;rw [jA];refine bS (kf _ T k 93 (by omega) (by omega)) ?_;refine cT (by rw [hd0];rfl) ?_;refine bS (lF _ T k 63 91 _ (by omega) hd0 (by decide)) ?_;refine cF rfl ?_;refine bS h ?_;have h1:there T (k+2*(j+1)):=⟨93,_,hd1,by decide,by decide⟩;refine bS (kz m T _ c1 (by omega) h1) ?_;refine cF rfl ?_;refine cF rfl ?_;refine cF (X2 ((k+2*(j+1):Nat):Int) (k:Int) (by omega) (by omega)) ?_;refine bS (J2 _ T _ _ 93 _ (by omega) hd1 (by decide)) ?_;refine cT rfl ?_;refine bS (kz (m+1) T _ c1 (by omega) h1) ?_;refine bS (kf _ T _ 44 (by omega) (by omega)) ?_;refine cT (by rw [hd1];rfl) ?_;refine bS (kf _ T _ 93 (by omega) (by omega)) ?_;refine cF (by rw [hd1];rfl) ?_;rfl
theorem M8 (d m:Nat) (T:List Int) (hT:T.length<100000) (c1:Int) (ops:List Int) (k j:Nat) (s:List Int) (ev:xV) (hd:T.drop k=gZ (j+1) (93::s))
  (h:dD d (m+5) ((0:Int),(k:Int)) [((0:Int),T)] c1 true 0 ops ev=some (.inr 8)):
  jA (dD d) (m+1) (3:Int) (93:Int) [((0:Int),T)] c1 true 0 ops ev 0 0 0 (k:Int)=some (.inr ((8,()),())):=by
 have hk:k+2*(j+1)+1+s.length=T.length:=by have:=congrArg List.length hd;rw [kD] at this;simp at this;omega
 have hd0:T.drop k=91::gZ j (93::93::s):=hd;rw [jA];refine bS (kf _ T k 93 (by omega) (by omega)) ?_;refine cT (by rw [hd0];rfl) ?_;refine bS (lF _ T k 63 91 _ (by omega) hd0 (by decide)) ?_;refine cF rfl ?_;refine bS h ?_;rfl
def nE (j:Nat):xV:=List.replicate j sS++List.replicate j sE
theorem TK (T:List Int) (hT:T.length<100000) (c1:Int):∀ (j d n k:Nat) (s ops:List Int) (ev:xV),T.drop k=gZ (j+1) s->j<400->ops.length+(j+1)<=200->ev.length+2*j+2<10000->j+1<=d->T.length+80+3*j<=n->
  dD d n ((0:Int),(k:Int)) [((0:Int),T)] c1 true 0 ops ev=some (.inl ((((((0:Int),((k+2*(j+1):Nat):Int)),true),()),(([((0:Int),T)],(c1,(true,(0,(ops,(ev++nE (j+1),())))))),())))):=by
 intro j
 induction j with
 |zero=>
  intro d n k s ops ev hd _ ho he hdd hn;obtain ⟨d,rfl⟩:∃ q,d=q+1:=⟨d - 1,by omega⟩;obtain ⟨m,rfl⟩:∃ m,n=m+8:=⟨n - 8,by omega⟩;have hk:k+2+s.length=T.length:=by have:=congrArg List.length hd;rw [kD] at this;simp at this;omega
  have hd0:T.drop k=91::93::s:=hd;have hd1:T.drop (k+1)=93::s:=by rw [←zah,hd0];rfl
  refine (AZ d (m+1) T k (k+1) 93 s c1 ops ev (ev++ [sS]) hT hd0 (by decide) (by decide) (by omega) (by simp;omega) (by omega) ?_ (by omega)).trans ?_
  ·rw [jA]
   refine bS (kf _ T (k+1) 93 (by omega) (by omega)) ?_;refine cF (by rw [hd1];rfl) ?_;rfl
  ·simp [nE];omega
 |succ j ih=>
  intro d n k s ops ev hd hj ho he hdd hn;obtain ⟨d,rfl⟩:∃ q,d=q+1:=⟨d - 1,by omega⟩;obtain ⟨m,rfl⟩:∃ m,n=m+8:=⟨n - 8,by omega⟩;obtain ⟨x,r,hx,hx1,hx2⟩:=Cl (j+1) s;have hd0:T.drop k=91::x::r:=by rw [←hx];exact hd
  have hd1:T.drop (k+1)=gZ (j+1) (93::s):=by rw [←zah,hd];rfl
  have hk:k+2*(j+2)+s.length=T.length:=by have:=congrArg List.length hd;rw [kD] at this;simp at this;omega
  have h:=ih d (m+5) (k+1) (93::s) (ops++ [3]) (ev++ [sS]) hd1 (by omega) (by simp;omega) (by simp;omega) (by omega) (by omega);have hl:=O4 d m T hT c1 (ops++ [3]) (k+1) j s (ev++ [sS]) _ hd1 (by omega) h;refine (AZ d (m+1) T k (k+1+2*(j+1)) x r c1 ops ev _ hT hd0 hx1 hx2 (by omega) (by simp [nE];omega) (by omega) hl (by omega)).trans ?_;rw [show k+1+2*(j+1)+1=k+2*(j+1+1) by omega];have:ev++ [sS]++nE (j+1)++ [sE]=ev++nE (j+1+1):=by
   unfold nE;rw [List.replicate_succ' (n:=j+1) (a:=sE),List.replicate_succ (n:=j+1) (a:=sS)];simp
  rw [this]
theorem Rr (T:List Int) (hT:T.length<100000) (c1:Int):∀ (j d n k:Nat) (s ops:List Int) (ev:xV),T.drop k=gZ (j+1) s->200<ops.length+(j+1)->ops.length<=200->ev.length+2*j+2<10000->j+1<=d->T.length+80+3*j<=n->
  dD d n ((0:Int),(k:Int)) [((0:Int),T)] c1 true 0 ops ev=some (.inr 8):=by
 intro j
 induction j with
 |zero=>
  intro d n k s ops ev hd ho ho2 he hdd hn;obtain ⟨d,rfl⟩:∃ q,d=q+1:=⟨d - 1,by omega⟩;obtain ⟨m,rfl⟩:∃ m,n=m+8:=⟨n - 8,by omega⟩;have hd0:T.drop k=91::93::s:=hd;exact yu d (m+1) T k 93 s c1 ops ev hT hd0 (by decide) (by decide) (by omega) (by omega) (fun h=>by omega)
 |succ j ih=>
  intro d n k s ops ev hd ho ho2 he hdd hn;obtain ⟨d,rfl⟩:∃ q,d=q+1:=⟨d - 1,by omega⟩;obtain ⟨m,rfl⟩:∃ m,n=m+8:=⟨n - 8,by omega⟩;obtain ⟨x,r,hx,hx1,hx2⟩:=Cl (j+1) s;have hd0:T.drop k=91::x::r:=by rw [←hx];exact hd
  have hd1:T.drop (k+1)=gZ (j+1) (93::s):=by rw [←zah,hd];rfl
  refine yu d (m+1) T k x r c1 ops ev hT hd0 hx1 hx2 (by omega) (by omega) (fun h=>?_);exact M8 d m T hT c1 (ops++ [3]) (k+1) j s (ev++ [sS]) hd1 (ih d (m+5) (k+1) (93::s) (ops++ [3]) (ev++ [sS]) hd1 (by simp;omega) (by simp;omega) (by simp;omega) (by omega) (by omega))
end Go.Proofs.YtdelfjdjenlaiaaGreatDoor
