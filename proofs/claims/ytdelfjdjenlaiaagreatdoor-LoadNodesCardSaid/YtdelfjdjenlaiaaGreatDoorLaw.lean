/- Plain functions for the program's. -/
import Derived.Test.YtdelfjdjenlaiaaGreatDoorFa
import Derived.Test.YtdelfjdjenlaiaaGreatDoorGvSpecX
import Derived.Test.YtdelfjdjenlaiaaGreatDoorGs
set_option linter.unusedSimpArgs false
set_option linter.unusedVariables false
namespace Go.Proofs.YtdelfjdjenlaiaaGreatDoor
open Go Go.Iv Go.Gv
set_option maxRecDepth 100000
noncomputable def hex (_n:Nat) (c:Int):Option dg:=
 Option.bind (bif (aQ 48 c) then
 some (aQ c 57)
 else
 some false) fun b1=>
 bif b1 then
 none
 else
 Option.bind (bif (aQ 97 c) then
 some (aQ c 102)
 else
 some false) fun b3=>
 bif b3 then
 some ((zal ((zal (c - 97))+10)),())
 else
 none
noncomputable def Q4:bw:=⟨115,[(false,am)],[(false,am)],1,fun n x=>hex n x.1⟩
theorem Wx (n:Nat):aI Tryz.prog hint aG Q4 n:=
 aI.of (hk:=fun β=>(an.mk [] []).hk β) (sh:=aG) (fun m _=>ab.aK ab.nil m) (fun x=>by kernel_rfl)
noncomputable def word (_n:Nat) (c:Int):Option d6:=
 Option.bind (bif (aQ 48 c) then
 some (aQ c 57)
 else
 some false) fun b1=>
 bif b1 then
 some (true,())
 else
 Option.bind (bif (aQ 97 c) then
 some (aQ c 122)
 else
 some false) fun b3=>
 bif b3 then
 some (true,())
 else
 Option.bind (bif (aQ 65 c) then
 some (aQ c 90)
 else
 some false) fun b5=>
 bif b5 then
 some (true,())
 else
 some ((c==45),())
noncomputable def KY:bw:=⟨179,[(false,am)],[(false,.bool)],1,fun n x=>word n x.1⟩
theorem TT (n:Nat):aI Tryz.prog hint aG KY n:=
 aI.of (hk:=fun β=>(an.mk [] []).hk β) (sh:=aG) (fun m _=>ab.aK ab.nil m) (fun x=>by kernel_rfl)
noncomputable def qq:Tm:=⟨[(2,ac)],[],64,64,1000⟩
noncomputable def A0:Tm:=⟨[(0,.one (.aC am)),(34,.one (.aC .byte)),(35,ac),(36,ac)],[],64,64,1000⟩
noncomputable def Cb:Nat->bv->d7->Int->Int->Option mt
 |0,_,_,_,_=>none
 |n+1,t0,t34,t35,t36=>
 bif (aR t36 t35) then
 bif (aQ 0 t36) then
 Option.bind (t34[(Int.toNat t36)]?) fun x7=>
 Option.bind (t0[0]?) fun x8=>
 bif (x8==(zal (ub x7))) then
 some ((1,()),())
 else
 Cb n t0 t34 t35 (zal (t36+1))
 else none
 else
 none
noncomputable def xR:aM:=⟨151,10,none,A0,[(.ret,qq)],0,fun n x=>Cb n x.1.1 x.1.2.1 x.1.2.2.1 x.1.2.2.2.1,[],[]⟩
theorem tU:qq.ok Tryz.prog hint:=Tm.dh rfl
theorem o9:A0.ok Tryz.prog hint:=Tm.dh rfl
theorem Jh:∀ n,ao Tryz.prog hint aG xR n:=
 ao.of (hk:=fun β=>(an.mk [] []).hk β) (sh:=aG) (aL.of (by kernel_rfl)) o9 ⟨⟨tU,zai _,zai _⟩,trivial⟩ (fun m=>ab.aK ab.nil m)
  (fun _=>by kernel_rfl) (fun m x=>by kernel_rfl)
noncomputable def sign (n:Nat) (l:List Int):Option dg:=
 bif ((len l)==0) then
 some (0,())
 else
 Option.bind (l[0]?) fun x0=>
 bif (x0==37) then
 none
 else
 Option.bind (l[0]?) fun x1=>
 Option.bind (word n x1) fun y2=>
 bif y2.1 then
 some (1,())
 else
 Option.bind (Cb (n+2) l ([35,59,47,63,58,64,38,61,43,36,44,95,46,33,126,42,39,40,41,91,93]:List UInt8) 21 0) fun y9=>
 some (y9.1.1,())
noncomputable def Lz:bw:=⟨151,[(false,(.aJ am))],[(false,am)],2,fun n x=>sign n x.1⟩
theorem S2 (n:Nat):aI Tryz.prog hint aG Lz n:=
 aI.of (hk:=fun β=>(an.mk [KY] [xR]).hk β) (sh:=aG) (fun m _=>ab.aK ((ab.nil.fn TT).loop Jh o9) m) (fun x=>by kernel_rfl)
noncomputable def qB:Tm:=⟨[(3,.one (.all 64 3 am .ex))],[],64,65,1000⟩
noncomputable def Lw:Tm:=⟨[(3,.one (.all 64 3 am .ex)),(7,.one (.aC .byte)),(8,ac),(9,ac)],[],64,65,1000⟩
noncomputable def OF:Nat->bv->d7->Int->Int->Option (g6×Unit)
 |0,_,_,_,_=>none
 |n+1,t3,t7,t8,t9=>
 bif (aR t9 t8) then
 bif (aQ 0 t9) then
 Option.bind (t7[(Int.toNat t9)]?) fun x3=>
 bif (room (((List.length t3)+(List.length ((zal (ub x3))::([]:List Int))))*9)) then
 OF n (t3++((zal (ub x3))::([]:List Int))) t7 t8 (zal (t9+1))
 else none
 else none
 else
 some ((t3,()),())
noncomputable def Ee:aM:=⟨68,3,none,Lw,[(.exit 0,qB)],0,fun n x=>OF n x.1.1 x.1.2.1 x.1.2.2.1 x.1.2.2.2.1,[],[]⟩
theorem uM:qB.ok Tryz.prog hint:=Tm.dh rfl
theorem xL:Lw.ok Tryz.prog hint:=Tm.dh rfl
theorem OK:∀ n,ao Tryz.prog hint aG Ee n:=
 ao.of (hk:=fun β=>(an.mk [] []).hk β) (sh:=aG) (aL.of (by kernel_rfl)) xL ⟨⟨uM,zai _,zai _⟩,trivial⟩ (fun m=>ab.aK ab.nil m)
  (fun _=>by kernel_rfl) (fun m x=>by kernel_rfl)
noncomputable def lJ:Tm:=⟨[],[(65,.cells 24 [.aC am] true),(66,.cells 70 [.fix (TV.fn 99 [] [])] true),(67,.cells 3 [be] true),(68,.cells 24 [.aC am] true),(69,.loop 98 Go.LoopState.ready (Option.none) (jw Tryz.prog hint 98) [(2,.one (.fix (TV.ptr 65 0))),(3,.one (.fix (TV.ptr 66 0))),(5,.one (.fix (TV.ptr 67 0)))] (aH Tryz.prog 98 5).1 (aH Tryz.prog 98 5).2.1 (aH Tryz.prog 98 5).2.2)],70,70,2008⟩
noncomputable def xy:Tm:=⟨[(0,.one (.fix (TV.mX 69))),(1,.one (.fix (TV.ptr 68 0))),(3,ac)],[(65,.cells 24 [.aC am] true),(66,.cells 70 [.fix (TV.fn 99 [] [])] true),(67,.cells 3 [be] true),(68,.cells 24 [.aC am] true),(69,.loop 98 Go.LoopState.ready (Option.none) (jw Tryz.prog hint 98) [(2,.one (.fix (TV.ptr 65 0))),(3,.one (.fix (TV.ptr 66 0))),(5,.one (.fix (TV.ptr 67 0)))] (aH Tryz.prog 98 5).1 (aH Tryz.prog 98 5).2.1 (aH Tryz.prog 98 5).2.2)],70,70,2008⟩
noncomputable def J2:Nat->Int->bv->Int->bv->Option (Unit×(g6×(d9×(dg×(g6×(md×Unit))))))
 |0,_,_,_,_=>none
 |n+1,t3,c65_0,c67_0,c68_0=>
 bif ((aQ 0 t3) &&(aQ t3 (len c68_0))) then
 Option.bind (sign (n+1) (List.take ((List.length c68_0) - (Int.toNat t3)) (List.drop (Int.toNat t3) c68_0))) fun y9=>
 bif (y9.1==0) then
 some ((),((c65_0,()),(((),()),((c67_0,()),((c68_0,()),(((),((),((),()))),()))))))
 else
 bif (aQ 0 t3) then
 Option.bind (c65_0[(Int.toNat t3)]?) fun _=>
 J2 n (zal (t3+y9.1)) c65_0 (zal (t3+y9.1)) c68_0
 else none
 else none
noncomputable def A1:aM:=⟨150,1,none,xy,[(.ret,lJ)],3,fun n x=>J2 n x.1.2.2.1 x.2.1.1 x.2.2.2.1.1 x.2.2.2.2.1.1,[64],[65,66,68]⟩
theorem vN:lJ.ok Tryz.prog hint:=by
 intro p hp;simp only [lJ,List.mem_cons,List.not_mem_nil,or_false] at hp;rcases hp with rfl |rfl |rfl |rfl |rfl
 ·trivial
 ·trivial
 ·trivial
 ·trivial
 ·exact jB.of (by kernel_rfl) (by kernel_rfl)
theorem sI:xy.ok Tryz.prog hint:=by
 intro p hp;simp only [xy,List.mem_cons,List.not_mem_nil,or_false] at hp;rcases hp with rfl |rfl |rfl |rfl |rfl
 ·trivial
 ·trivial
 ·trivial
 ·trivial
 ·exact jB.of (by kernel_rfl) (by kernel_rfl)
theorem Ng:∀ n,ao Tryz.prog hint aG A1 n:=
 ao.of (hk:=fun β=>(an.mk [Lz] []).hk β) (sh:=aG) (aL.of (by kernel_rfl)) sI ⟨⟨vN,zai _,zai _⟩,trivial⟩ (fun m=>ab.aK (ab.nil.fn S2) m)
  (fun _=>by kernel_rfl) (fun m x=>by kernel_rfl)
noncomputable def valid (n:Nat) (tag:List UInt8):Option d6:=
 Option.bind (OF (n+5) ([]:List Int) tag (len tag) 0) fun y4=>
 bif (aR 0 (len y4.1.1)) then
 Option.bind (J2 n 0 y4.1.1 0 y4.1.1) fun y11=>
 some ((y11.2.2.2.1.1==(len y4.1.1)),())
 else
 none
noncomputable def E4:bw:=⟨68,[(false,.str)],[(false,.bool)],5,fun n x=>valid n x.1⟩
theorem PT (n:Nat):aI Tryz.prog hint aG E4 n:=
 aI.of (hk:=fun β=>(an.mk [] [A1,Ee]).hk β) (sh:=aG) (fun m _=>ab.aK ((ab.nil.loop OK xL).loop Ng sI) m) (fun x=>by kernel_rfl)
noncomputable def QY (_n:Nat) (s:List UInt8):Option d6:=
 bif (aQ (len s) 262144) then
 bif (Nat.ble (List.length s) 9223372036854775807) then
 some ((Go.Lib.validD s),())
 else none
 else
 none
noncomputable def A7:bw:=⟨69,[(false,.str)],[(false,.bool)],1,fun n x=>QY n x.1⟩
theorem N0 (n:Nat):aI Tryz.prog hint aG A7 n:=
 aI.of (hk:=fun β=>(an.mk [] []).hk β) (sh:=aG) (fun m _=>ab.aK ab.nil m) (fun x=>by kernel_rfl)
noncomputable def qQ:Tm:=⟨[],[(64,.cells 26 [.aC ka,.aC am] true)],65,65,1001⟩
noncomputable def Lr:Tm:=⟨[(2,.one (.fix (TV.ptr 64 0))),(7,.one (.aC am)),(8,ac),(9,ac)],[(64,.cells 26 [.aC ka,.aC am] true)],65,65,1001⟩
noncomputable def AH:Nat->bv->Int->Int->qY->bv->Option (Unit×kw)
 |0,_,_,_,_,_=>none
 |n+1,t7,t8,t9,c64_0,c64_1=>
 bif (aR t9 t8) then
 bif (aQ 0 t9) then
 Option.bind (t7[(Int.toNat t9)]?) fun x2=>
 bif (aR x2 0) then
 none
 else
 bif (aQ (len c64_0) x2) then
 none
 else
 AH n t7 t8 (zal (t9+1)) c64_0 c64_1
 else none
 else
 some ((),((c64_0,(c64_1,())),()))
noncomputable def GQ:aM:=⟨39,2,none,Lr,[(.exit 0,qQ)],0,fun n x=>AH n x.1.2.1 x.1.2.2.1 x.1.2.2.2.1 x.2.1.1 x.2.1.2.1,[],[64]⟩
theorem tY:qQ.ok Tryz.prog hint:=Tm.dh rfl
theorem vZ:Lr.ok Tryz.prog hint:=Tm.dh rfl
theorem QK:∀ n,ao Tryz.prog hint aG GQ n:=
 ao.of (hk:=fun β=>(an.mk [] []).hk β) (sh:=aG) (aL.of (by kernel_rfl)) vZ ⟨⟨tY,zai _,zai _⟩,trivial⟩ (fun m=>ab.aK ab.nil m)
  (fun _=>by kernel_rfl) (fun m x=>by kernel_rfl)
noncomputable def WU (n:Nat) (g:dl) (l:List Int):Option d6:=
 Option.bind (AH (n+1) l (len l) 0 g.1 g.2) fun _=>
 some (true,())
noncomputable def JC:bw:=⟨39,[(true,(.cons (.aJ ka) (.aJ am))),(false,(.aJ am))],[(false,.bool)],1,fun n x=>WU n x.1 x.2.1⟩
theorem PD (n:Nat):aI Tryz.prog hint aG JC n:=
 aI.of (hk:=fun β=>(an.mk [] [GQ]).hk β) (sh:=aG) (fun m _=>ab.aK (ab.nil.loop QK vZ) m) (fun x=>by kernel_rfl)
noncomputable def node (n:Nat) (x:(Int×g8)):Option d6:=
 bif (aR 1000 (len x.2.1)) then
 none
 else
 bif (x.2.1==([33]:List UInt8)) then
 none
 else
 Option.bind (valid n x.2.1) fun y0=>
 bif (!y0.1) then
 none
 else
 bif (x.1==1) then
 bif ((len x.2.2.2.1)==0) then
 Option.bind (QY (n+4) x.2.2.1) fun y1=>
 some (y1.1,())
 else
 none
 else
 bif (x.1==2) then
 Option.bind (bif (x.2.2.1==([]:List UInt8)) then
 some (!x.2.2.2.2)
 else
 none) fun b3=>
 some (b3,())
 else
 none
noncomputable def Ld:bw:=⟨40,[(true,ka)],[(false,.bool)],6,fun n x=>node n x.1⟩
theorem Tu (n:Nat):aI Tryz.prog hint aG Ld n:=
 aI.of (hk:=fun β=>(an.mk [A7,E4] []).hk β) (sh:=aG) (fun m _=>ab.aK ((ab.nil.fn PT).fn N0) m) (fun x=>by kernel_rfl)
noncomputable def qN:Tm:=⟨[],[(64,.cells 26 [.aC ka,.aC am] true)],65,65,1001⟩
noncomputable def Ll:Tm:=⟨[(1,.one (.fix (TV.ptr 64 0))),(3,ac),(24,.one (.aC ka)),(25,ac),(26,ac)],[(64,.cells 26 [.aC ka,.aC am] true)],65,65,1001⟩
noncomputable def Ap:Nat->Int->qY->Int->Int->qY->bv->Option (Unit×kw)
 |0,_,_,_,_,_,_=>none
 |n+1,t3,t24,t25,t26,c64_0,c64_1=>
 bif (aR t26 t25) then
 bif (aQ 0 t26) then
 Option.bind (t24[(Int.toNat t26)]?) fun x7=>
 bif (aR 20000 (zal (t3+(len x7.2.2.2.1)))) then
 none
 else
 Option.bind (node (n+1) (x7.1,(x7.2.1,(x7.2.2.1,(x7.2.2.2.1,x7.2.2.2.2))))) fun y8=>
 bif (!y8.1) then
 none
 else
 Option.bind (WU (n+6) (c64_0,c64_1) x7.2.2.2.1) fun y9=>
 bif (!y9.1) then
 none
 else
 Ap n (zal (t3+(len x7.2.2.2.1))) t24 t25 (zal (t26+1)) c64_0 c64_1
 else none
 else
 some ((),((c64_0,(c64_1,())),()))
noncomputable def Gs:aM:=⟨20,5,none,Ll,[(.exit 0,qN)],7,fun n x=>Ap n x.1.2.1 x.1.2.2.1 x.1.2.2.2.1 x.1.2.2.2.2.1 x.2.1.1 x.2.1.2.1,[],[64]⟩
theorem tT:qN.ok Tryz.prog hint:=Tm.dh rfl
theorem xO:Ll.ok Tryz.prog hint:=Tm.dh rfl
theorem RM:∀ n,ao Tryz.prog hint aG Gs n:=
 ao.of (hk:=fun β=>(an.mk [JC,Ld] []).hk β) (sh:=aG) (aL.of (by kernel_rfl)) xO ⟨⟨tT,zai _,zai _⟩,trivial⟩ (fun m=>ab.aK ((ab.nil.fn Tu).fn PD) m)
  (fun _=>by kernel_rfl) (fun m x=>by kernel_rfl)
noncomputable def right (n:Nat) (g:dl):Option d6:=
 bif (aR 20000 (len g.1)) then
 none
 else
 bif (aR 20000 (len g.2)) then
 none
 else
 Option.bind (WU (n+5) (g.1,g.2) g.2) fun y0=>
 bif (!y0.1) then
 none
 else
 Option.bind (Ap n 0 g.1 (len g.1) 0 g.1 g.2) fun _=>
 some (true,())
noncomputable def xj:bw:=⟨20,[(true,(.cons (.aJ ka) (.aJ am)))],[(false,.bool)],7,fun n x=>right n x.1⟩
theorem Ey (n:Nat):aI Tryz.prog hint aG xj n:=
 aI.of (hk:=fun β=>(an.mk [JC] [Gs]).hk β) (sh:=aG) (fun m _=>ab.aK ((ab.nil.fn PD).loop RM xO) m) (fun x=>by kernel_rfl)
set_option maxRecDepth 100000
noncomputable def pO:Tm:=⟨[(3,ac)],[],64,64,1000⟩
noncomputable def Kl:Tm:=⟨[(0,.one (.str)),(3,ac)],[],64,64,1000⟩
noncomputable def Vp:Nat->d7->Int->Option mt
 |0,_,_=>none
 |_+1,t0,t3=>
 Option.bind (bif (aR t3 (len t0)) then
 bif (aQ 0 t3) then
 Option.bind (t0[(Int.toNat t3)]?) fun x9=>
 bif (Nat.ble (UInt8.toNat (48:UInt8)) (UInt8.toNat x9)) then
 bif (aQ 0 t3) then
 Option.bind (t0[(Int.toNat t3)]?) fun x10=>
 some (Nat.ble (UInt8.toNat x10) (UInt8.toNat (57:UInt8)))
 else none
 else
 some false
 else none
 else
 some false) fun b11=>
 bif b11 then
 none
 else
 some ((t3,()),())
noncomputable def Ha:aM:=⟨92,2,none,Kl,[(.exit 0,pO)],0,fun n x=>Vp n x.1.1 x.1.2.1,[],[]⟩
theorem uG:pO.ok Tryz.prog hint:=Tm.dh rfl
theorem vL:Kl.ok Tryz.prog hint:=Tm.dh rfl
theorem Oo:∀ n,ao Tryz.prog hint aG Ha n:=
 ao.of (hk:=fun β=>(an.mk [] []).hk β) (sh:=aG) (aL.of (by kernel_rfl)) vL ⟨⟨uG,zai _,zai _⟩,trivial⟩ (fun m=>ab.aK ab.nil m)
  (fun _=>by kernel_rfl) (fun m x=>by kernel_rfl)
noncomputable def count (n:Nat) (s:List UInt8):Option dg:=
 Option.bind (Vp (n+1) s 0) fun y12=>
 some (y12.1.1,())
noncomputable def Gd:bw:=⟨92,[(false,.str)],[(false,am)],1,fun n x=>count n x.1⟩
theorem Rs (n:Nat):aI Tryz.prog hint aG Gd n:=
 aI.of (hk:=fun β=>(an.mk [] [Ha]).hk β) (sh:=aG) (fun m _=>ab.aK (ab.nil.loop Oo vL) m) (fun x=>by kernel_rfl)
noncomputable def kp (_n:Nat) (s:List UInt8) (x:List UInt8):Option d6:=
 bif (aQ (len x) (len s)) then
 bif (aQ (len x) (len s)) then
 some (((List.take ((Int.toNat (len x)) - 0) (List.drop 0 s))==x),())
 else none
 else
 some (false,())
noncomputable def fZ:bw:=⟨121,[(false,.str),(false,.str)],[(false,.bool)],0,fun n x=>kp n x.1 x.2.1⟩
theorem jm (n:Nat):aI Tryz.prog hint aG fZ n:=
 aI.of (hk:=fun β=>(an.mk [] []).hk β) (sh:=aG) (fun m _=>ab.aK ab.nil m) (fun x=>by kernel_rfl)
noncomputable def hasPrefix (n:Nat) (s:List UInt8) (x:List UInt8):Option d6:=
 Option.bind (kp n s x) fun y0=>
 some (y0.1,())
noncomputable def kf:bw:=⟨93,[(false,.str),(false,.str)],[(false,.bool)],1,fun n x=>hasPrefix n x.1 x.2.1⟩
theorem qU (n:Nat):aI Tryz.prog hint aG kf n:=
 aI.of (hk:=fun β=>(an.mk [fZ] []).hk β) (sh:=aG) (fun m _=>ab.aK (ab.nil.fn jm) m) (fun x=>by kernel_rfl)
noncomputable def trimPrefix (n:Nat) (s:List UInt8) (x:List UInt8):Option jp:=
 Option.bind (kp n s x) fun y0=>
 bif y0.1 then
 none
 else
 some (s,())
noncomputable def nw:bw:=⟨95,[(false,.str),(false,.str)],[(false,.str)],2,fun n x=>trimPrefix n x.1 x.2.1⟩
theorem zg (n:Nat):aI Tryz.prog hint aG nw n:=
 aI.of (hk:=fun β=>(an.mk [fZ] []).hk β) (sh:=aG) (fun m _=>ab.aK (ab.nil.fn jm) m) (fun x=>by kernel_rfl)
noncomputable def rE (n:Nat) (s:List UInt8) (x:List UInt8):Option (d7×d6):=
 Option.bind (kp n s x) fun y0=>
 bif (!y0.1) then
 some (s,false,())
 else
 none
noncomputable def py:bw:=⟨87,[(false,.str),(false,.str)],[(false,.str),(false,.bool)],2,fun n x=>rE n x.1 x.2.1⟩
theorem Dh (n:Nat):aI Tryz.prog hint aG py n:=
 aI.of (hk:=fun β=>(an.mk [fZ] []).hk β) (sh:=aG) (fun m _=>ab.aK (ab.nil.fn jm) m) (fun x=>by kernel_rfl)
noncomputable def signed (n:Nat) (s:List UInt8):Option (d7×d6):=
 Option.bind (hasPrefix (n+1) s ([45]:List UInt8)) fun y0=>
 bif y0.1 then
 none
 else
 Option.bind (trimPrefix n s ([43]:List UInt8)) fun y1=>
 some (y1.1,false,())
noncomputable def mT:bw:=⟨88,[(false,.str)],[(false,.str),(false,.bool)],3,fun n x=>signed n x.1⟩
theorem rQ (n:Nat):aI Tryz.prog hint aG mT n:=
 aI.of (hk:=fun β=>(an.mk [nw,kf] []).hk β) (sh:=aG) (fun m _=>ab.aK ((ab.nil.fn qU).fn zg) m) (fun x=>by kernel_rfl)
noncomputable def xJ:Tm:=⟨[(4,.one (.str)),(5,.one (.bool))],[],64,64,1000⟩
noncomputable def LM:Tm:=⟨[(0,.one (.str)),(1,ac),(6,.one (.fix (TV.raw (Go.Value.slice (Option.none) 0 0)))),(30,.one (.aC .byte)),(31,ac),(32,ac)],[],64,64,1000⟩
noncomputable def UO:Nat->d7->Int->d7->Int->Int->Option ((d7×d6)×Unit)
 |0,_,_,_,_,_=>none
 |n+1,_,t1,t30,t31,t32=>
 bif (aR t32 t31) then
 bif (aQ 0 t32) then
 Option.bind (t30[(Int.toNat t32)]?) fun x10=>
 Option.bind (hex (n+1) (zal (ub x10))) fun y11=>
 Option.bind (bif (aR y11.1 0) then
 none
 else
 some (aQ t1 y11.1)) fun b13=>
 bif b13 then
 some ((([]:List UInt8),(false,())),())
 else
 none
 else none
 else
 none
noncomputable def D3:aM:=⟨89,5,none,LM,[(.ret,xJ)],2,fun n x=>UO n x.1.1 x.1.2.1 x.1.2.2.2.1 x.1.2.2.2.2.1 x.1.2.2.2.2.2.1,[],[]⟩
theorem yT:xJ.ok Tryz.prog hint:=Tm.dh rfl
theorem wv:LM.ok Tryz.prog hint:=Tm.dh rfl
theorem OE:∀ n,ao Tryz.prog hint aG D3 n:=
 ao.of (hk:=fun β=>(an.mk [Q4] []).hk β) (sh:=aG) (aL.of (by kernel_rfl)) wv ⟨⟨yT,zai _,zai _⟩,trivial⟩ (fun m=>ab.aK (ab.nil.fn Wx) m)
  (fun _=>by kernel_rfl) (fun m x=>by kernel_rfl)
noncomputable def plain (n:Nat) (s:List UInt8) (base:Int):Option (d7×d6):=
 Option.bind (bif (s==([]:List UInt8)) then
 some true
 else
 bif (aR 5000 (len s)) then
 some true
 else
 bif (base !=8) then
 bif (base !=10) then
 none
 else
 some false
 else
 some false) fun b1=>
 bif b1 then
 some (([]:List UInt8),false,())
 else
 Option.bind (UO n s base s (len s) 0) fun y14=>
 some (y14.1.1,y14.1.2.1,())
noncomputable def Gh:bw:=⟨89,[(false,.str),(false,am)],[(false,.str),(false,.bool)],2,fun n x=>plain n x.1 x.2.1⟩
theorem Q8 (n:Nat):aI Tryz.prog hint aG Gh n:=
 aI.of (hk:=fun β=>(an.mk [] [D3]).hk β) (sh:=aG) (fun m _=>ab.aK (ab.nil.loop OE wv) m) (fun x=>by kernel_rfl)
noncomputable def int (n:Nat) (s:List UInt8):Option ((Bool×lc)×d6):=
 Option.bind (rE (n+1) s ([48,111]:List UInt8)) fun y0=>
 bif y0.2.1 then
 none
 else
 Option.bind (rE (n+1) s ([48,120]:List UInt8)) fun y1=>
 bif y1.2.1 then
 none
 else
 Option.bind (signed n s) fun y2=>
 Option.bind (plain (n+1) y2.1 10) fun y3=>
 bif (!y3.2.1) then
 some ((false,(([]:List UInt8),(0,0))),false,())
 else
 none
noncomputable def Re:bw:=⟨62,[(false,.str)],[(true,(.cons .bool (.cons .str (.cons am am)))),(false,.bool)],4,fun n x=>int n x.1⟩
theorem Wm (n:Nat):aI Tryz.prog hint aG Re n:=
 aI.of (hk:=fun β=>(an.mk [Gh,mT,py] []).hk β) (sh:=aG) (fun m _=>ab.aK (((ab.nil.fn Dh).fn rQ).fn Q8) m) (fun x=>by kernel_rfl)
set_option maxRecDepth 100000
noncomputable def exponent (_n:Nat) (s:List UInt8):Option (Int×d6):=
 bif (s==([]:List UInt8)) then
 some (0,true,())
 else
 Option.bind (Option.bind (s[0]?) fun x1=>
 bif (x1 !=(101:UInt8)) then
 Option.bind (s[0]?) fun x2=>
 some (x2 !=(69:UInt8))
 else
 none) fun b3=>
 bif b3 then
 some (0,false,())
 else
 none
noncomputable def sG:bw:=⟨94,[(false,.str)],[(false,am),(false,.bool)],0,fun n x=>exponent n x.1⟩
theorem FP (n:Nat):aI Tryz.prog hint aG sG n:=
 aI.of (hk:=fun β=>(an.mk [] []).hk β) (sh:=aG) (fun m _=>ab.aK ab.nil m) (fun x=>by kernel_rfl)
noncomputable def named (n:Nat) (s:List UInt8):Option ((Bool×lc)×d6):=
 bif (s==([46,110,97,110]:List UInt8)) then
 none
 else
 bif (s==([46,78,97,78]:List UInt8)) then
 none
 else
 bif (s==([46,78,65,78]:List UInt8)) then
 none
 else
 Option.bind (signed n s) fun y0=>
 bif (y0.1==([46,105,110,102]:List UInt8)) then
 none
 else
 bif (y0.1==([46,73,110,102]:List UInt8)) then
 none
 else
 bif (y0.1==([46,73,78,70]:List UInt8)) then
 none
 else
 some ((false,(([]:List UInt8),(0,0))),false,())
noncomputable def Gj:bw:=⟨91,[(false,.str)],[(true,(.cons .bool (.cons .str (.cons am am)))),(false,.bool)],4,fun n x=>named n x.1⟩
theorem P6 (n:Nat):aI Tryz.prog hint aG Gj n:=
 aI.of (hk:=fun β=>(an.mk [mT] []).hk β) (sh:=aG) (fun m _=>ab.aK (ab.nil.fn rQ) m) (fun x=>by kernel_rfl)
noncomputable def float (n:Nat) (s:List UInt8):Option ((Bool×lc)×d6):=
 Option.bind (named n s) fun y0=>
 bif y0.2.1 then
 none
 else
 Option.bind (signed (n+1) s) fun y1=>
 Option.bind (count (n+3) y1.1) fun y2=>
 bif ((aQ 0 y2.1) &&(aQ y2.1 (len y1.1))) then
 bif ((aQ 0 y2.1) &&(aQ y2.1 (len y1.1))) then
 Option.bind (hasPrefix (n+3) (List.take ((List.length y1.1) - (Int.toNat y2.1)) (List.drop (Int.toNat y2.1) y1.1)) ([46]:List UInt8)) fun y3=>
 bif y3.1 then
 none
 else
 Option.bind (exponent (n+4) (List.take ((List.length y1.1) - (Int.toNat y2.1)) (List.drop (Int.toNat y2.1) y1.1))) fun y4=>
 Option.bind (bif (!y4.2.1) then
 some true
 else
 bif ((List.take ((Int.toNat y2.1) - 0) (List.drop 0 y1.1))==([]:List UInt8)) then
 some true
 else
 none) fun b6=>
 bif b6 then
 some ((false,(([]:List UInt8),(0,0))),false,())
 else
 none
 else none
 else none
noncomputable def DF:bw:=⟨63,[(false,.str)],[(true,(.cons .bool (.cons .str (.cons am am)))),(false,.bool)],5,fun n x=>float n x.1⟩
theorem Pb (n:Nat):aI Tryz.prog hint aG DF n:=
 aI.of (hk:=fun β=>(an.mk [sG,kf,Gd,mT,Gj] []).hk β) (sh:=aG) (fun m _=>ab.aK (((((ab.nil.fn P6).fn rQ).fn Rs).fn qU).fn FP) m) (fun x=>by kernel_rfl)
set_option maxRecDepth 100000
noncomputable def P8 (_n:Nat) (s:List UInt8):Option d6:=
 Option.bind (bif (s==([]:List UInt8)) then
 some true
 else
 bif (s==([126]:List UInt8)) then
 some true
 else
 bif (s==([110,117,108,108]:List UInt8)) then
 some true
 else
 bif (s==([78,117,108,108]:List UInt8)) then
 some true
 else
 some (s==([78,85,76,76]:List UInt8))) fun b1=>
 some (b1,())
noncomputable def wb:bw:=⟨64,[(false,.str)],[(false,.bool)],0,fun n x=>P8 n x.1⟩
theorem Gg (n:Nat):aI Tryz.prog hint aG wb n:=
 aI.of (hk:=fun β=>(an.mk [] []).hk β) (sh:=aG) (fun m _=>ab.aK ab.nil m) (fun x=>by kernel_rfl)
noncomputable def QH (_n:Nat) (s:List UInt8):Option (Bool×d6):=
 bif (s==([116,114,117,101]:List UInt8)) then
 none
 else
 bif (s==([84,114,117,101]:List UInt8)) then
 none
 else
 bif (s==([84,82,85,69]:List UInt8)) then
 none
 else
 bif (s==([102,97,108,115,101]:List UInt8)) then
 none
 else
 bif (s==([70,97,108,115,101]:List UInt8)) then
 none
 else
 bif (s==([70,65,76,83,69]:List UInt8)) then
 none
 else
 some (false,false,())
noncomputable def zM:bw:=⟨61,[(false,.str)],[(false,.bool),(false,.bool)],0,fun n x=>QH n x.1⟩
theorem Ob (n:Nat):aI Tryz.prog hint aG zM n:=
 aI.of (hk:=fun β=>(an.mk [] []).hk β) (sh:=aG) (fun m _=>ab.aK ab.nil m) (fun x=>by kernel_rfl)
noncomputable def core (n:Nat) (s:List UInt8):Option jp:=
 Option.bind (QH (n+5) s) fun y0=>
 Option.bind (int (n+1) s) fun y1=>
 Option.bind (float n s) fun y2=>
 Option.bind (P8 (n+5) s) fun y3=>
 bif y3.1 then
 some (([110,117,108,108]:List UInt8),())
 else
 bif y0.2.1 then
 none
 else
 bif y1.2.1 then
 none
 else
 bif y2.2.1 then
 none
 else
 some (([115,116,114]:List UInt8),())
noncomputable def L0:bw:=⟨37,[(false,.str)],[(false,.str)],6,fun n x=>core n x.1⟩
theorem UJ (n:Nat):aI Tryz.prog hint aG L0 n:=
 aI.of (hk:=fun β=>(an.mk [wb,DF,Re,zM] []).hk β) (sh:=aG) (fun m _=>ab.aK ((((ab.nil.fn Ob).fn Wm).fn Pb).fn Gg) m) (fun x=>by kernel_rfl)
noncomputable def l3 (n:Nat) (tag:List UInt8) (s:List UInt8):Option ((Int×(Bool×((Bool×lc)×List UInt8)))×dg):=
 bif (tag==([116,97,103,58,121,97,109,108,46,111,114,103,44,50,48,48,50,58,110,117,108,108]:List UInt8)) then
 Option.bind (P8 n s) fun y0=>
 bif (!y0.1) then
 none
 else
 some ((1,(false,((false,(([]:List UInt8),(0,0))),([]:List UInt8)))),0,())
 else
 bif (tag==([116,97,103,58,121,97,109,108,46,111,114,103,44,50,48,48,50,58,98,111,111,108]:List UInt8)) then
 none
 else
 bif (tag==([116,97,103,58,121,97,109,108,46,111,114,103,44,50,48,48,50,58,105,110,116]:List UInt8)) then
 none
 else
 bif (tag==([116,97,103,58,121,97,109,108,46,111,114,103,44,50,48,48,50,58,102,108,111,97,116]:List UInt8)) then
 none
 else
 some ((5,(false,((false,(([]:List UInt8),(0,0))),s))),0,())
noncomputable def sc:bw:=⟨41,[(false,.str),(false,.str)],[(true,(.cons am (.cons .bool (.cons (.cons .bool (.cons .str (.cons am am))) .str)))),(false,am)],1,fun n x=>l3 n x.1 x.2.1⟩
theorem Bw (n:Nat):aI Tryz.prog hint aG sc n:=
 aI.of (hk:=fun β=>(an.mk [wb] []).hk β) (sh:=aG) (fun m _=>ab.aK (ab.nil.fn Gg) m) (fun x=>by kernel_rfl)
noncomputable def Xa (_n:Nat) (k:Int):Option jp:=
 bif (k==1) then
 none
 else
 bif (k==2) then
 some (([116,97,103,58,121,97,109,108,46,111,114,103,44,50,48,48,50,58,115,101,113]:List UInt8),())
 else
 none
noncomputable def LK:bw:=⟨36,[(false,am)],[(false,.str)],0,fun n x=>Xa n x.1⟩
theorem Tx (n:Nat):aI Tryz.prog hint aG LK n:=
 aI.of (hk:=fun β=>(an.mk [] []).hk β) (sh:=aG) (fun m _=>ab.aK ab.nil m) (fun x=>by kernel_rfl)
noncomputable def iL (n:Nat) (kind:Int) (tag:List UInt8) (text:List UInt8) (plain:Bool) (sch:Int):Option jp:=
 Option.bind (bif (!(tag==([]:List UInt8))) then
 none
 else
 some false) fun b1=>
 bif b1 then
 none
 else
 Option.bind (bif (tag==([33]:List UInt8)) then
 none
 else
 bif (kind !=1) then
 some true
 else
 some (!plain)) fun b3=>
 bif b3 then
 Option.bind (Xa (n+6) kind) fun y4=>
 some (y4.1,())
 else
 bif (sch==2) then
 Option.bind (core n text) fun y5=>
 bif (room ((List.length ([116,97,103,58,121,97,109,108,46,111,114,103,44,50,48,48,50,58]:List UInt8))+(List.length y5.1))) then
 some ((([116,97,103,58,121,97,109,108,46,111,114,103,44,50,48,48,50,58]:List UInt8)++y5.1),())
 else none
 else
 none
noncomputable def tu:bw:=⟨19,[(false,am),(false,.str),(false,.str),(false,.bool),(false,am)],[(false,.str)],7,fun n x=>iL n x.1 x.2.1 x.2.2.1 x.2.2.2.1 x.2.2.2.2.1⟩
theorem Gk (n:Nat):aI Tryz.prog hint aG tu n:=
 aI.of (hk:=fun β=>(an.mk [L0,LK] []).hk β) (sh:=aG) (fun m _=>ab.aK ((ab.nil.fn Tx).fn UJ) m) (fun x=>by kernel_rfl)
noncomputable def oZ:Tm:=⟨[(2,.one (.fix (TV.ptr 64 0))),(4,.one (.fix (TV.ptr 65 0)))],[(64,.cells 26 [.fix (TV.all 67),.aC am] true),(65,.cells 26 [.fix (TV.raw (Go.Value.slice (Option.none) 0 0)),.fix (TV.raw (Go.Value.slice (Option.none) 0 0))] true),(67,.arr 38 ka true false .no)],68,68,1005⟩
noncomputable def KE:Tm:=⟨[(1,ac),(2,.one (.fix (TV.ptr 64 0))),(4,.one (.fix (TV.ptr 65 0))),(12,.one (.fix (TV.all 67))),(13,ac),(14,ac)],[(64,.cells 26 [.fix (TV.all 67),.aC am] true),(65,.cells 26 [.fix (TV.raw (Go.Value.slice (Option.none) 0 0)),.fix (TV.raw (Go.Value.slice (Option.none) 0 0))] true),(67,.arr 38 ka true false .no)],68,68,1005⟩
noncomputable def z6:Nat->Int->Int->Int->bv->qY->Option (ip×((Unit×g6)×(ip×(qY×Unit))))
 |0,_,_,_,_,_=>none
 |n+1,t1,t13,t14,c64_1,a67=>
 bif (aR t14 t13) then
 bif ((aQ 0 t14) &&(aR t14 (len a67))) then
 Option.bind (a67[(Int.toNat t14)]?) fun x6=>
 Option.bind (iL (n+1) x6.1 x6.2.1 x6.2.2.1 x6.2.2.2.2 t1) fun y7=>
 bif ((aQ 0 t14) &&(aR t14 (len a67))) then
 Option.bind (a67[(Int.toNat t14)]?) fun x8=>
 z6 n t1 t13 (zal (t14+1)) c64_1 (List.set a67 (Int.toNat t14) (x8.1,(y7.1,(x8.2.2.1,(x8.2.2.2.1,x8.2.2.2.2)))))
 else none
 else none
 else
 some (((),((),())),(((),(c64_1,())),(((),((),())),(a67,()))))
noncomputable def F0:aM:=⟨11,3,none,KE,[(.exit 0,oZ)],8,fun n x=>z6 n x.1.1 x.1.2.2.2.2.1 x.1.2.2.2.2.2.1 x.2.1.2.1 x.2.2.2.1,[],[64,65]⟩
theorem uF:oZ.ok Tryz.prog hint:=Tm.dh rfl
theorem xm:KE.ok Tryz.prog hint:=Tm.dh rfl
theorem Qq:∀ n,ao Tryz.prog hint aG F0 n:=
 ao.of (hk:=fun β=>(an.mk [tu] []).hk β) (sh:=aG) (aL.of (by kernel_rfl)) xm ⟨⟨uF,zai _,zai _⟩,trivial⟩ (fun m=>ab.aK (ab.nil.fn Gk) m)
  (fun _=>by kernel_rfl) (fun m x=>by kernel_rfl)
noncomputable def resolved (n:Nat) (g:dl) (sch:Int):Option (dl×Unit):=
 bif (!(List.isEmpty g.1)) then
 bif (room ((0+(List.length g.1))*73)) then
 Option.bind (z6 n sch (len ([]++g.1)) 0 g.2 ([]++g.1)) fun y9=>
 some ((y9.2.2.2.1,g.2),())
 else none
 else none
noncomputable def sX:bw:=⟨11,[(true,(.cons (.aJ ka) (.aJ am))),(false,am)],[(true,(.cons (.aJ ka) (.aJ am)))],8,fun n x=>resolved n x.1 x.2.1⟩
theorem DO (n:Nat):aI Tryz.prog hint aG sX n:=
 aI.of (hk:=fun β=>(an.mk [] [F0]).hk β) (sh:=aG) (fun m _=>ab.aK (ab.nil.loop Qq xm) m) (fun x=>by kernel_rfl)
noncomputable def qd:Tm:=⟨[],[],65,65,1001⟩
noncomputable def Kc:Tm:=⟨[(8,.one (.aC ka)),(9,ac),(10,ac)],[],65,65,1001⟩
noncomputable def yD:Nat->qY->Int->Int->Option d9
 |0,_,_,_=>none
 |n+1,t8,t9,t10=>
 bif (aR t10 t9) then
 bif (aQ 0 t10) then
 Option.bind (t8[(Int.toNat t10)]?) fun x4=>
 bif (x4.1 !=1) then
 yD n t8 t9 (zal (t10+1))
 else
 Option.bind (l3 (n+1) x4.2.1 x4.2.2.1) fun y5=>
 bif (y5.2.1 !=0) then
 none
 else
 yD n t8 t9 (zal (t10+1))
 else none
 else
 some ((),())
noncomputable def Gb:aM:=⟨21,2,none,Kc,[(.exit 0,qd)],2,fun n x=>yD n x.1.1 x.1.2.1 x.1.2.2.1,[64],[]⟩
theorem ur:qd.ok Tryz.prog hint:=Tm.dh rfl
theorem yf:Kc.ok Tryz.prog hint:=Tm.dh rfl
theorem R9:∀ n,ao Tryz.prog hint aG Gb n:=
 ao.of (hk:=fun β=>(an.mk [sc] []).hk β) (sh:=aG) (aL.of (by kernel_rfl)) yf ⟨⟨ur,zai _,zai _⟩,trivial⟩ (fun m=>ab.aK (ab.nil.fn Bw) m)
  (fun _=>by kernel_rfl) (fun m x=>by kernel_rfl)
noncomputable def uW (n:Nat) (g:dl):Option dg:=
 Option.bind (yD n g.1 (len g.1) 0) fun _=>
 some (0,())
noncomputable def yw:bw:=⟨21,[(true,(.cons (.aJ ka) (.aJ am)))],[(false,am)],2,fun n x=>uW n x.1⟩
theorem Ja (n:Nat):aI Tryz.prog hint aG yw n:=
 aI.of (hk:=fun β=>(an.mk [] [Gb]).hk β) (sh:=aG) (fun m _=>ab.aK (ab.nil.loop R9 yf) m) (fun x=>by kernel_rfl)
set_option maxRecDepth 100000
noncomputable def own (n:Nat) (x:(Int×g8)):Option jp:=
 bif (CR x.1) then
 bif (room ((List.length (Go.Lib.itoa x.1))+(List.length ([32]:List UInt8)))) then
 bif (CR (len x.2.2.2.1)) then
 bif (room ((List.length ((Go.Lib.itoa x.1)++([32]:List UInt8)))+(List.length (Go.Lib.itoa (len x.2.2.2.1))))) then
 bif (room ((List.length (((Go.Lib.itoa x.1)++([32]:List UInt8))++(Go.Lib.itoa (len x.2.2.2.1))))+(List.length ([32]:List UInt8)))) then
 bif (room ((List.length ((((Go.Lib.itoa x.1)++([32]:List UInt8))++(Go.Lib.itoa (len x.2.2.2.1)))++([32]:List UInt8)))+(List.length x.2.1))) then
 bif (room ((List.length (((((Go.Lib.itoa x.1)++([32]:List UInt8))++(Go.Lib.itoa (len x.2.2.2.1)))++([32]:List UInt8))++x.2.1))+(List.length ([10]:List UInt8)))) then
 bif (x.1 !=1) then
 some (((((((Go.Lib.itoa x.1)++([32]:List UInt8))++(Go.Lib.itoa (len x.2.2.2.1)))++([32]:List UInt8))++x.2.1)++([10]:List UInt8)),())
 else
 Option.bind (l3 n x.2.1 x.2.2.1) fun y0=>
 bif (y0.2.1 !=0) then
 none
 else
 Option.bind (bif (y0.1.1==3) then
 none
 else
 some (y0.1.1==4)) fun b2=>
 bif b2 then
 none
 else
 bif (y0.1.1==2) then
 none
 else
 bif (room ((List.length ((((((Go.Lib.itoa x.1)++([32]:List UInt8))++(Go.Lib.itoa (len x.2.2.2.1)))++([32]:List UInt8))++x.2.1)++([10]:List UInt8)))+(List.length y0.1.2.2.2))) then
 some ((((((((Go.Lib.itoa x.1)++([32]:List UInt8))++(Go.Lib.itoa (len x.2.2.2.1)))++([32]:List UInt8))++x.2.1)++([10]:List UInt8))++y0.1.2.2.2),())
 else none
 else none
 else none
 else none
 else none
 else none
 else none
 else none
noncomputable def PJ:bw:=⟨71,[(true,ka)],[(false,.str)],2,fun n x=>own n x.1⟩
theorem Wc (n:Nat):aI Tryz.prog hint aG PJ n:=
 aI.of (hk:=fun β=>(an.mk [sc] []).hk β) (sh:=aG) (fun m _=>ab.aK (ab.nil.fn Bw) m) (fun x=>by kernel_rfl)
noncomputable def qw:Tm:=⟨[(1,.one (.fix (TV.ptr 64 0))),(3,.one (.all 67 3 am .no)),(4,.one (.all 68 9 .str .no))],[(64,.cells 26 [.aC ka,.aC am] true)],67,69,1003⟩
noncomputable def KW:Tm:=⟨[(1,.one (.fix (TV.ptr 64 0))),(3,.one (.all 67 3 am .no)),(4,.one (.all 68 9 .str .no)),(26,.one (.aC ka)),(27,ac),(28,ac)],[(64,.cells 26 [.aC ka,.aC am] true)],67,69,1003⟩
noncomputable def wW:Nat->bv->(List d7)->qY->Int->Int->qY->bv->Option ((Unit×(bv×((List d7)×Unit)))×kw)
 |0,_,_,_,_,_,_,_=>none
 |n+1,t3,t4,t26,t27,t28,c64_0,c64_1=>
 bif (aR t28 t27) then
 bif (aQ 0 t28) then
 Option.bind (t26[(Int.toNat t28)]?) fun x6=>
 Option.bind (own (n+1) (x6.1,(x6.2.1,(x6.2.2.1,(x6.2.2.2.1,x6.2.2.2.2))))) fun y7=>
 bif ((aQ 0 t28) &&(aR t28 (len t4))) then
 Option.bind (t4[(Int.toNat t28)]?) fun _=>
 wW n t3 (List.set t4 (Int.toNat t28) y7.1) t26 t27 (zal (t28+1)) c64_0 c64_1
 else none
 else none
 else
 some (((),(t3,(t4,()))),((c64_0,(c64_1,())),()))
noncomputable def Ea:aM:=⟨42,4,none,KW,[(.exit 0,qw)],3,fun n x=>wW n x.1.2.1 x.1.2.2.1 x.1.2.2.2.1 x.1.2.2.2.2.1 x.1.2.2.2.2.2.1 x.2.1.1 x.2.1.2.1,[],[64]⟩
theorem ua:qw.ok Tryz.prog hint:=Tm.dh rfl
theorem vj:KW.ok Tryz.prog hint:=Tm.dh rfl
theorem Ru:∀ n,ao Tryz.prog hint aG Ea n:=
 ao.of (hk:=fun β=>(an.mk [PJ] []).hk β) (sh:=aG) (aL.of (by kernel_rfl)) vj ⟨⟨ua,zai _,zai _⟩,trivial⟩ (fun m=>ab.aK (ab.nil.fn Wc) m)
  (fun _=>by kernel_rfl) (fun m x=>by kernel_rfl)
noncomputable def nI:Tm:=⟨[(1,.one (.fix (TV.ptr 64 0))),(3,.one (.all 72 3 am .no)),(4,.one (.fix (TV.all 70))),(39,ac)],[(64,.cells 26 [.aC ka,.aC am] true),(70,.arr 9 .str true false .no),(71,.map 9 false false .str am false)],72,73,3006⟩
noncomputable def GY:Tm:=⟨[(1,.one (.fix (TV.ptr 64 0))),(3,.one (.all 72 3 am .no)),(4,.one (.fix (TV.all 70))),(7,.one (.fix (TV.mp 71))),(39,ac),(42,.one (.fix (TV.all 70))),(43,ac),(44,ac)],[(64,.cells 26 [.aC ka,.aC am] true),(70,.arr 9 .str true false .no),(71,.map 9 false false .str am false)],72,73,3006⟩
noncomputable def kD:Nat->bv->Int->Int->Int->qY->bv->(List d7)->(List (List UInt8×Int))->Option ((Unit×(bv×(Unit×dg)))×((qY×g6)×((List d7)×((List (List UInt8×Int))×Unit))))
 |0,_,_,_,_,_,_,_,_=>none
 |n+1,t3,t39,t43,t44,c64_0,c64_1,a70,m71=>
 bif (aR t44 t43) then
 bif ((aQ 0 t44) &&(aR t44 (len a70))) then
 Option.bind (a70[(Int.toNat t44)]?) fun x16=>
 bif (!(E8 Sh.str m71 x16)) then
 bif ((aQ 0 t44) &&(aR t44 (len t3))) then
 Option.bind (t3[(Int.toNat t44)]?) fun _=>
 kD n (List.set t3 (Int.toNat t44) (nz Sh.str (iV Sh.str m71 x16 (len m71)) x16 0)) t39 t43 (zal (t44+1)) c64_0 c64_1 a70 (iV Sh.str m71 x16 (len m71))
 else none
 else
 bif ((aQ 0 t44) &&(aR t44 (len t3))) then
 Option.bind (t3[(Int.toNat t44)]?) fun _=>
 kD n (List.set t3 (Int.toNat t44) (nz Sh.str m71 x16 0)) t39 t43 (zal (t44+1)) c64_0 c64_1 a70 m71
 else none
 else none
 else
 some (((),(t3,((),(t39,())))),((c64_0,(c64_1,())),(a70,(m71,()))))
noncomputable def As:aM:=⟨42,12,none,GY,[(.exit 4,nI)],0,fun n x=>kD n x.1.2.1 x.1.2.2.2.2.1 x.1.2.2.2.2.2.2.1 x.1.2.2.2.2.2.2.2.1 x.2.1.1 x.2.1.2.1 x.2.2.1 x.2.2.2.1,[],[64]⟩
theorem rO:nI.ok Tryz.prog hint:=Tm.dh rfl
theorem tC:GY.ok Tryz.prog hint:=Tm.dh rfl
theorem NO:∀ n,ao Tryz.prog hint aG As n:=
 ao.of (hk:=fun β=>(an.mk [] []).hk β) (sh:=aG) (aL.of (by kernel_rfl)) tC ⟨⟨rO,zai _,zai _⟩,trivial⟩ (fun m=>ab.aK ab.nil m)
  (fun _=>by kernel_rfl) (fun m x=>by kernel_rfl)
noncomputable def nq:Tm:=⟨[(1,.one (.fix (TV.ptr 64 0))),(3,.one (.all 78 3 am .no)),(4,.one (.all 79 9 .str .no)),(12,ac),(14,.one (.fix (TV.ptr 76 0))),(39,ac),(69,.one (.aC ka)),(70,ac),(71,ac)],[(64,.cells 26 [.aC ka,.aC am] true),(76,.cells 132 [.fix (TV.ptr 76 0),.all 80 5 .byte .ex] true)],78,81,5014⟩
noncomputable def Gt:Tm:=⟨[(1,.one (.fix (TV.ptr 64 0))),(3,.one (.all 78 3 am .no)),(4,.one (.all 79 9 .str .no)),(12,ac),(14,.one (.fix (TV.ptr 76 0))),(39,ac),(69,.one (.aC ka)),(70,ac),(71,ac),(83,.one (.aC am)),(84,ac),(85,ac)],[(64,.cells 26 [.aC ka,.aC am] true),(76,.cells 132 [.fix (TV.ptr 76 0),.all 80 5 .byte .ex] true)],78,81,5014⟩
noncomputable def rb:Nat->bv->(List d7)->Int->Int->qY->Int->Int->bv->Int->Int->qY->bv->d7->Option ((Unit×(bv×((List d7)×(Int×(Unit×(Int×(qY×g7)))))))×((qY×g6)×((Unit×jp)×Unit)))
 |0,_,_,_,_,_,_,_,_,_,_,_,_,_=>none
 |n+1,t3,t4,t12,t39,t69,t70,t71,t83,t84,t85,c64_0,c64_1,c76_1=>
 bif (aR t85 t84) then
 bif (aQ 0 t85) then
 Option.bind (t83[(Int.toNat t85)]?) fun x26=>
 bif (room (((List.length c76_1)+(List.length ((32:UInt8)::([]:List UInt8))))*2)) then
 bif ((aQ 0 x26) &&(aR x26 (len t3))) then
 Option.bind (t3[(Int.toNat x26)]?) fun x27=>
 bif (CR x27) then
 bif (room (((List.length (c76_1++((32:UInt8)::([]:List UInt8))))+(List.length (Go.Lib.itoa x27)))*2)) then
 rb n t3 t4 t12 t39 t69 t70 t71 t83 t84 (zal (t85+1)) c64_0 c64_1 ((c76_1++((32:UInt8)::([]:List UInt8)))++(Go.Lib.itoa x27))
 else none
 else none
 else none
 else none
 else none
 else
 some (((),(t3,(t4,(t12,((),(t39,(t69,(t70,(t71,()))))))))),((c64_0,(c64_1,())),(((),(c76_1,())),())))
noncomputable def z7:aM:=⟨42,25,none,Gt,[(.exit 8,nq)],2,fun n x=>rb n x.1.2.1 x.1.2.2.1 x.1.2.2.2.1 x.1.2.2.2.2.2.1 x.1.2.2.2.2.2.2.1 x.1.2.2.2.2.2.2.2.1 x.1.2.2.2.2.2.2.2.2.1 x.1.2.2.2.2.2.2.2.2.2.1 x.1.2.2.2.2.2.2.2.2.2.2.1 x.1.2.2.2.2.2.2.2.2.2.2.2.1 x.2.1.1 x.2.1.2.1 x.2.2.1.2.1,[75],[64]⟩
theorem rL:nq.ok Tryz.prog hint:=Tm.dh rfl
theorem te:Gt.ok Tryz.prog hint:=Tm.dh rfl
theorem MH:∀ n,ao Tryz.prog hint aG z7 n:=
 ao.of (hk:=fun β=>(an.mk [] []).hk β) (sh:=aG) (aL.of (by kernel_rfl)) te ⟨⟨rL,zai _,zai _⟩,trivial⟩ (fun m=>ab.aK ab.nil m)
  (fun _=>by kernel_rfl) (fun m x=>by kernel_rfl)
noncomputable def np:Tm:=⟨[(1,.one (.fix (TV.ptr 64 0))),(3,.one (.all 73 3 am .no)),(4,.one (.all 74 9 .str .no)),(39,ac)],[(64,.cells 26 [.aC ka,.aC am] true)],73,75,4007⟩
noncomputable def F7:Tm:=⟨[(1,.one (.fix (TV.ptr 64 0))),(3,.one (.all 73 3 am .no)),(4,.one (.all 74 9 .str .no)),(39,ac),(69,.one (.aC ka)),(70,ac),(71,ac)],[(64,.cells 26 [.aC ka,.aC am] true)],73,75,4007⟩
noncomputable def lZ:Nat->bv->(List d7)->Int->qY->Int->Int->qY->bv->Option ((Unit×(bv×((List d7)×dg)))×kw)
 |0,_,_,_,_,_,_,_,_=>none
 |n+1,t3,t4,t39,t69,t70,t71,c64_0,c64_1=>
 bif (aR t71 t70) then
 bif (aQ 0 t71) then
 Option.bind (t69[(Int.toNat t71)]?) fun x36=>
 bif ((aQ 0 t71) &&(aR t71 (len t3))) then
 Option.bind (t3[(Int.toNat t71)]?) fun x37=>
 bif (CR x37) then
 bif (room ((List.length (Go.Lib.itoa x37))*2)) then
 Option.bind (rb (n+1) t3 t4 t71 t39 t69 t70 t71 x36.2.2.2.1 (len x36.2.2.2.1) 0 c64_0 c64_1 (Go.Lib.itoa x37)) fun y38=>
 bif (List.isEmpty y38.2.2.1.2.1) then
 bif ((len y38.2.2.1.2.1)==0) then
 bif ((aQ 0 y38.1.2.2.2.1) &&(aR y38.1.2.2.2.1 (len y38.1.2.2.1))) then
 Option.bind (y38.1.2.2.1[(Int.toNat y38.1.2.2.2.1)]?) fun _=>
 lZ n y38.1.2.1 (List.set y38.1.2.2.1 (Int.toNat y38.1.2.2.2.1) ([]:List UInt8)) y38.1.2.2.2.2.2.1 y38.1.2.2.2.2.2.2.1 y38.1.2.2.2.2.2.2.2.1 (zal (y38.1.2.2.2.2.2.2.2.2.1+1)) c64_0 c64_1
 else none
 else none
 else
 bif ((aQ (len y38.2.2.1.2.1) (len y38.2.2.1.2.1)) &&(aQ (len y38.2.2.1.2.1) 1099511627776)) then
 bif ((aQ 0 y38.1.2.2.2.1) &&(aR y38.1.2.2.2.1 (len y38.1.2.2.1))) then
 Option.bind (y38.1.2.2.1[(Int.toNat y38.1.2.2.2.1)]?) fun _=>
 lZ n y38.1.2.1 (List.set y38.1.2.2.1 (Int.toNat y38.1.2.2.2.1) (List.take (Int.toNat (len y38.2.2.1.2.1)) y38.2.2.1.2.1)) y38.1.2.2.2.2.2.1 y38.1.2.2.2.2.2.2.1 y38.1.2.2.2.2.2.2.2.1 (zal (y38.1.2.2.2.2.2.2.2.2.1+1)) c64_0 c64_1
 else none
 else none
 else none
 else none
 else none
 else none
 else
 some (((),(t3,(t4,(t39,())))),((c64_0,(c64_1,())),()))
noncomputable def Ai:aM:=⟨42,20,none,F7,[(.exit 6,np)],2,fun n x=>lZ n x.1.2.1 x.1.2.2.1 x.1.2.2.2.1 x.1.2.2.2.2.1 x.1.2.2.2.2.2.1 x.1.2.2.2.2.2.2.1 x.2.1.1 x.2.1.2.1,[71],[64]⟩
theorem so:np.ok Tryz.prog hint:=Tm.dh rfl
theorem tP:F7.ok Tryz.prog hint:=Tm.dh rfl
theorem MC:∀ n,ao Tryz.prog hint aG Ai n:=
 ao.of (hk:=fun β=>(an.mk [] [z7]).hk β) (sh:=aG) (aL.of (by kernel_rfl)) tP ⟨⟨so,zai _,zai _⟩,trivial⟩ (fun m=>ab.aK (ab.nil.loop MH te) m)
  (fun _=>by kernel_rfl) (fun m x=>by kernel_rfl)
noncomputable def pH:Tm:=⟨[(3,.one (.all 69 3 am .no))],[(64,.cells 26 [.aC ka,.aC am] true)],69,70,2004⟩
noncomputable def KM:Tm:=⟨[(1,.one (.fix (TV.ptr 64 0))),(3,.one (.all 69 3 am .no)),(4,.one (.all 70 9 .str .no)),(39,ac)],[(64,.cells 26 [.aC ka,.aC am] true)],69,71,2004⟩
noncomputable def xN:Nat->bv->(List d7)->Int->qY->bv->Option (g6×kw)
 |0,_,_,_,_,_=>none
 |n+1,t3,t4,t39,c64_0,c64_1=>
 bif (aR t39 4) then
 Option.bind (kD (n+3) t3 t39 (len t4) 0 c64_0 c64_1 t4 []) fun y44=>
 Option.bind (lZ (n+1) y44.1.2.1 y44.2.2.1 y44.1.2.2.2.1 c64_0 (len c64_0) 0 c64_0 c64_1) fun y45=>
 xN n y45.1.2.1 y45.1.2.2.1 (zal (y45.1.2.2.2.1+1)) c64_0 c64_1
 else
 some ((t3,()),((c64_0,(c64_1,())),()))
noncomputable def GZ:aM:=⟨42,9,none,KM,[(.exit 2,pH)],2,fun n x=>xN n x.1.2.1 x.1.2.2.1 x.1.2.2.2.1 x.2.1.1 x.2.1.2.1,[],[64]⟩
theorem uv:pH.ok Tryz.prog hint:=Tm.dh rfl
theorem wI:KM.ok Tryz.prog hint:=Tm.dh rfl
theorem Ra:∀ n,ao Tryz.prog hint aG GZ n:=
 ao.of (hk:=fun β=>(an.mk [] [Ai,As]).hk β) (sh:=aG) (aL.of (by kernel_rfl)) wI ⟨⟨uv,zai _,zai _⟩,trivial⟩ (fun m=>ab.aK ((ab.nil.loop NO tC).loop MC tP) m)
  (fun _=>by kernel_rfl) (fun m x=>by kernel_rfl)
noncomputable def CS (n:Nat) (g:dl):Option g6:=
 bif ((aQ (len g.1) (len g.1)) &&(aQ ((len g.1)*9) 1099511627776)) then
 bif ((aQ (len g.1) (len g.1)) &&(aQ ((len g.1)*17) 1099511627776)) then
 Option.bind (wW n (List.replicate (Int.toNat (len g.1)) 0) (List.replicate (Int.toNat (len g.1)) ([]:List UInt8)) g.1 (len g.1) 0 g.1 g.2) fun y9=>
 Option.bind (xN (n+1) y9.1.2.1 y9.1.2.2.1 0 g.1 g.2) fun y46=>
 some (y46.1.1,())
 else none
 else none
noncomputable def Bg:bw:=⟨42,[(true,(.cons (.aJ ka) (.aJ am)))],[(false,(.aJ am))],3,fun n x=>CS n x.1⟩
theorem Md (n:Nat):aI Tryz.prog hint aG Bg n:=
 aI.of (hk:=fun β=>(an.mk [] [GZ,Ea]).hk β) (sh:=aG) (fun m _=>ab.aK ((ab.nil.loop Ru vj).loop Ra wI) m) (fun x=>by kernel_rfl)
noncomputable def o8:Tm:=⟨[],[(64,.cells 26 [.aC ka,.aC am] true)],65,65,1001⟩
noncomputable def LS:Tm:=⟨[(1,.one (.fix (TV.ptr 64 0))),(4,.one (.aC am)),(13,.one (.aC ka)),(14,ac),(15,ac)],[(64,.cells 26 [.aC ka,.aC am] true)],65,65,1001⟩
noncomputable def zQ:Nat->bv->qY->Int->Int->qY->bv->Option (Unit×kw)
 |0,_,_,_,_,_,_=>none
 |n+1,t4,t13,t14,t15,c64_0,c64_1=>
 bif (aR t15 t14) then
 bif (aQ 0 t15) then
 Option.bind (t13[(Int.toNat t15)]?) fun x4=>
 bif (x4.1==3) then
 none
 else
 zQ n t4 t13 t14 (zal (t15+1)) c64_0 c64_1
 else none
 else
 some ((),((c64_0,(c64_1,())),()))
noncomputable def F4:aM:=⟨22,5,none,LS,[(.exit 0,o8)],0,fun n x=>zQ n x.1.2.1 x.1.2.2.1 x.1.2.2.2.1 x.1.2.2.2.2.1 x.2.1.1 x.2.1.2.1,[],[64]⟩
theorem uo:o8.ok Tryz.prog hint:=Tm.dh rfl
theorem vm:LS.ok Tryz.prog hint:=Tm.dh rfl
theorem OM:∀ n,ao Tryz.prog hint aG F4 n:=
 ao.of (hk:=fun β=>(an.mk [] []).hk β) (sh:=aG) (aL.of (by kernel_rfl)) vm ⟨⟨uo,zai _,zai _⟩,trivial⟩ (fun m=>ab.aK ab.nil m)
  (fun _=>by kernel_rfl) (fun m x=>by kernel_rfl)
noncomputable def RX (n:Nat) (g:dl):Option (Int×d6):=
 Option.bind (right n (g.1,g.2)) fun y0=>
 bif (!y0.1) then
 none
 else
 Option.bind (CS (n+4) (g.1,g.2)) fun y1=>
 Option.bind (zQ (n+8) y1.1 g.1 (len g.1) 0 g.1 g.2) fun _=>
 some (0,false,())
noncomputable def Ej:bw:=⟨22,[(true,(.cons (.aJ ka) (.aJ am)))],[(false,am),(false,.bool)],8,fun n x=>RX n x.1⟩
theorem Su (n:Nat):aI Tryz.prog hint aG Ej n:=
 aI.of (hk:=fun β=>(an.mk [Bg,xj] [F4]).hk β) (sh:=aG) (fun m _=>ab.aK (((ab.nil.fn Ey).fn Md).loop OM vm) m) (fun x=>by kernel_rfl)
noncomputable def checked (n:Nat) (g:dl):Option dg:=
 Option.bind (right (n+1) (g.1,g.2)) fun y0=>
 bif (!y0.1) then
 none
 else
 Option.bind (uW (n+6) (g.1,g.2)) fun y1=>
 bif (y1.1 !=0) then
 none
 else
 Option.bind (RX n (g.1,g.2)) fun y2=>
 bif y2.2.1 then
 none
 else
 some (0,())
noncomputable def yd:bw:=⟨12,[(true,(.cons (.aJ ka) (.aJ am)))],[(false,am)],9,fun n x=>checked n x.1⟩
theorem JM (n:Nat):aI Tryz.prog hint aG yd n:=
 aI.of (hk:=fun β=>(an.mk [Ej,yw,xj] []).hk β) (sh:=aG) (fun m _=>ab.aK (((ab.nil.fn Ey).fn Ja).fn Su) m) (fun x=>by kernel_rfl)
set_option maxRecDepth 100000
noncomputable def blank (_n:Nat) (c:Int):Option d6:=
 Option.bind (bif (c==32) then
 some true
 else
 some (c==9)) fun b1=>
 some (b1,())
noncomputable def fJ:bw:=⟨109,[(false,am)],[(false,.bool)],0,fun n x=>blank n x.1⟩
theorem gh (n:Nat):aI Tryz.prog hint aG fJ n:=
 aI.of (hk:=fun β=>(an.mk [] []).hk β) (sh:=aG) (fun m _=>ab.aK ab.nil m) (fun x=>by kernel_rfl)
noncomputable def nF:Tm:=⟨[],[],64,64,1000⟩
noncomputable def tH:Tm:=⟨[(4,.one (.bool))],[],64,64,1000⟩
noncomputable def Fh:Tm:=⟨[(1,ac),(8,.one (.aC .byte)),(9,ac),(10,ac)],[],64,64,1000⟩
noncomputable def oG:Nat->Int->d7->Int->Int->Option (d9⊕lw)
 |0,_,_,_,_=>none
 |n+1,t1,t8,t9,t10=>
 bif (aR t10 t9) then
 bif (aQ 0 t10) then
 Option.bind (t8[(Int.toNat t10)]?) fun x2=>
 bif ((zal (ub x2))==t1) then
 some (.inr ((true,()),()))
 else
 oG n t1 t8 t9 (zal (t10+1))
 else none
 else
 some (.inl ((),()))
noncomputable def rK:aM:=⟨226,2,none,Fh,[(.exit 0,nF),(.ret,tH)],0,fun n x=>oG n x.1.1 x.1.2.1 x.1.2.2.1 x.1.2.2.2.1,[],[]⟩
theorem ss:nF.ok Tryz.prog hint:=Tm.dh rfl
theorem yA:tH.ok Tryz.prog hint:=Tm.dh rfl
theorem lE:Fh.ok Tryz.prog hint:=Tm.dh rfl
theorem Ao:∀ n,ao Tryz.prog hint aG rK n:=
 ao.of (hk:=fun β=>(an.mk [] []).hk β) (sh:=aG) (aL.of (by kernel_rfl)) lE ⟨⟨ss,zai _,zai _⟩,⟨yA,zai _,zai _⟩,trivial⟩ (fun m=>ab.aK ab.nil m)
  (fun _=>by kernel_rfl) (fun m x=>by kernel_rfl)
noncomputable def DL (n:Nat) (c:Int):Option d6:=
 Option.bind (oG (n+1) c ([44,91,93,123,125]:List UInt8) 5 0) fun y3=>
 match y3 with
 | .inl _=>
 some (false,())
 | .inr y5=>
 some (y5.1.1,())
noncomputable def vt:bw:=⟨204,[(false,am)],[(false,.bool)],2,fun n x=>DL n x.1⟩
theorem FJ (n:Nat):aI Tryz.prog hint aG vt n:=
 aI.of (hk:=fun β=>(an.mk [] [rK]).hk β) (sh:=aG) (fun m _=>ab.aK (ab.nil.loop Ao lE) m) (fun x=>by kernel_rfl)
noncomputable def LZ (n:Nat) (c:Int):Option d6:=
 Option.bind (oG (n+1) c ([45,63,58,44,91,93,123,125,35,38,42,33,124,62,39,34,37,64,96]:List UInt8) 19 0) fun y0=>
 match y0 with
 | .inl _=>
 some (false,())
 | .inr y2=>
 some (y2.1.1,())
noncomputable def Gl:bw:=⟨299,[(false,am)],[(false,.bool)],2,fun n x=>LZ n x.1⟩
theorem Qa (n:Nat):aI Tryz.prog hint aG Gl n:=
 aI.of (hk:=fun β=>(an.mk [] [rK]).hk β) (sh:=aG) (fun m _=>ab.aK (ab.nil.loop Ao lE) m) (fun x=>by kernel_rfl)
noncomputable def nJ:Tm:=⟨[(0,.one (.aC am))],[],65,65,1001⟩
noncomputable def F5:Tm:=⟨[(0,.one (.aC am))],[],65,65,1001⟩
noncomputable def HU:Nat->bv->Option (g6×Unit)
 |0,_=>none
 |n+1,t0=>
 bif (aR 0 (len t0)) then
 Option.bind (t0[0]?) fun x4=>
 Option.bind (blank (n+1) x4) fun y5=>
 bif y5.1 then
 none
 else
 some ((t0,()),())
 else
 none
noncomputable def AQ:aM:=⟨131,1,none,F5,[(.exit 0,nJ)],1,fun n x=>HU n x.1.1,[64],[]⟩
theorem rX:nJ.ok Tryz.prog hint:=Tm.dh rfl
theorem s9:F5.ok Tryz.prog hint:=Tm.dh rfl
theorem Mw:∀ n,ao Tryz.prog hint aG AQ n:=
 ao.of (hk:=fun β=>(an.mk [fJ] []).hk β) (sh:=aG) (aL.of (by kernel_rfl)) s9 ⟨⟨rX,zai _,zai _⟩,trivial⟩ (fun m=>ab.aK (ab.nil.fn gh) m)
  (fun _=>by kernel_rfl) (fun m x=>by kernel_rfl)
noncomputable def bare (n:Nat) (x:i6):Option d6:=
 Option.bind (HU n x.2) fun y6=>
 Option.bind (bif ((len y6.1.1)==0) then
 none
 else
 Option.bind (y6.1.1[0]?) fun x8=>
 some (x8==35)) fun b9=>
 some (b9,())
noncomputable def La:bw:=⟨108,[(true,(.cons am (.aJ am)))],[(false,.bool)],2,fun n x=>bare n x.1⟩
theorem SQ (n:Nat):aI Tryz.prog hint aG La n:=
 aI.of (hk:=fun β=>(an.mk [] [AQ]).hk β) (sh:=aG) (fun m _=>ab.aK (ab.nil.loop Mw s9) m) (fun x=>by kernel_rfl)
noncomputable def pK:Tm:=⟨[],[(64,.cells 75 [be,.aC am] true)],66,66,1002⟩
noncomputable def LX:Tm:=⟨[(1,.one (.fix (TV.ptr 64 0))),(28,.one (.all 66 3 am .no)),(29,ac),(30,ac)],[(64,.cells 75 [be,.aC am] true)],66,67,1002⟩
noncomputable def nu:Nat->bv->Int->Int->Int->bv->Option (Unit×((Int×g6)×Unit))
 |0,_,_,_,_,_=>none
 |n+1,t28,t29,t30,c64_0,c64_1=>
 bif (aR t30 t29) then
 bif ((aQ 0 t30) &&(aR t30 (len t28))) then
 Option.bind (t28[(Int.toNat t30)]?) fun x8=>
 Option.bind (c64_1[0]?) fun x9=>
 bif (x9==x8) then
 Option.bind (c64_1[1]?) fun x10=>
 bif (x10==x8) then
 none
 else
 nu n t28 t29 (zal (t30+1)) c64_0 c64_1
 else
 nu n t28 t29 (zal (t30+1)) c64_0 c64_1
 else none
 else
 some ((),((c64_0,(c64_1,())),()))
noncomputable def F6:aM:=⟨83,4,none,LX,[(.exit 0,pK)],0,fun n x=>nu n x.1.2.1 x.1.2.2.1 x.1.2.2.2.1 x.2.1.1 x.2.1.2.1,[],[64]⟩
theorem ux:pK.ok Tryz.prog hint:=Tm.dh rfl
theorem vE:LX.ok Tryz.prog hint:=Tm.dh rfl
theorem Pe:∀ n,ao Tryz.prog hint aG F6 n:=
 ao.of (hk:=fun β=>(an.mk [] []).hk β) (sh:=aG) (aL.of (by kernel_rfl)) vE ⟨⟨ux,zai _,zai _⟩,trivial⟩ (fun m=>ab.aK ab.nil m)
  (fun _=>by kernel_rfl) (fun m x=>by kernel_rfl)
noncomputable def oF (n:Nat) (x:i6):Option dg:=
 bif (x.1 !=0) then
 none
 else
 bif (aR (len x.2) 3) then
 some (0,())
 else
 bif (aR 3 (len x.2)) then
 Option.bind (x.2[3]?) fun x0=>
 Option.bind (blank n x0) fun y1=>
 bif (!y1.1) then
 some (0,())
 else
 Option.bind (nu (n+1) (45::(46::([]:List Int))) 2 0 x.1 x.2) fun _=>
 some (0,())
 else
 Option.bind (nu (n+1) (45::(46::([]:List Int))) 2 0 x.1 x.2) fun _=>
 some (0,())
noncomputable def jP:bw:=⟨83,[(true,(.cons am (.aJ am)))],[(false,am)],1,fun n x=>oF n x.1⟩
theorem mJ (n:Nat):aI Tryz.prog hint aG jP n:=
 aI.of (hk:=fun β=>(an.mk [fJ] [F6]).hk β) (sh:=aG) (fun m _=>ab.aK ((ab.nil.fn gh).loop Pe vE) m) (fun x=>by kernel_rfl)
noncomputable def safe (n:Nat) (l:List Int) (i:Int) (flow:Bool):Option d6:=
 bif (aR i (len l)) then
 bif (aQ 0 i) then
 Option.bind (l[(Int.toNat i)]?) fun x0=>
 Option.bind (print (n+1) x0) fun y1=>
 bif y1.1 then
 Option.bind (blank (n+2) x0) fun y2=>
 bif (!y2.1) then
 bif (x0 !=10) then
 bif (x0 !=13) then
 bif (x0 !=65279) then
 bif flow then
 Option.bind (DL n x0) fun y3=>
 some ((!y3.1),())
 else
 none
 else
 none
 else
 none
 else
 none
 else
 none
 else
 none
 else none
 else
 none
noncomputable def J8:bw:=⟨298,[(false,(.aJ am)),(false,am),(false,.bool)],[(false,.bool)],4,fun n x=>safe n x.1 x.2.1 x.2.2.1⟩
theorem SX (n:Nat):aI Tryz.prog hint aG J8 n:=
 aI.of (hk:=fun β=>(an.mk [vt,fJ,vJ] []).hk β) (sh:=aG) (fun m _=>ab.aK (((ab.nil.fn Gw).fn gh).fn FJ) m) (fun x=>by kernel_rfl)
noncomputable def BO (n:Nat) (l:List Int) (flow:Bool):Option d6:=
 Option.bind (safe n l 0 flow) fun y0=>
 bif (!y0.1) then
 none
 else
 Option.bind (l[0]?) fun x1=>
 bif (x1==45) then
 none
 else
 bif (x1==63) then
 none
 else
 bif (x1==58) then
 none
 else
 Option.bind (l[0]?) fun x2=>
 Option.bind (LZ (n+2) x2) fun y3=>
 some ((!y3.1),())
noncomputable def Ar:bw:=⟨270,[(false,(.aJ am)),(false,.bool)],[(false,.bool)],5,fun n x=>BO n x.1 x.2.1⟩
theorem M0 (n:Nat):aI Tryz.prog hint aG Ar n:=
 aI.of (hk:=fun β=>(an.mk [Gl,J8] []).hk β) (sh:=aG) (fun m _=>ab.aK ((ab.nil.fn SX).fn Qa) m) (fun x=>by kernel_rfl)
noncomputable def lM:Tm:=⟨[],[(64,.cells 24 [.aC am] true),(65,.cells 4 [.bool] true),(66,.cells 3 [be] true),(68,.cells 4 [.bool] true),(69,.loop 321 Go.LoopState.done (Option.some Go.Code.ret) (jw Tryz.prog hint 321) [(2,.one (.fix (TV.ptr 64 0))),(3,.one (.fix (TV.ptr 65 0))),(4,.one (.fix (TV.ptr 66 0)))] (aH Tryz.prog 321 4).1 (aH Tryz.prog 321 4).2.1 (aH Tryz.prog 321 4).2.2)],70,70,1006⟩
noncomputable def vq:Tm:=⟨[(0,.one (.fix (TV.mX 69))),(2,.one (.fix (TV.ptr 68 0))),(6,.one (.aC am)),(7,ac),(8,ac)],[(64,.cells 24 [.aC am] true),(65,.cells 4 [.bool] true),(66,.cells 3 [be] true),(68,.cells 4 [.bool] true),(69,.loop 321 Go.LoopState.ready (Option.none) (jw Tryz.prog hint 321) [(2,.one (.fix (TV.ptr 64 0))),(3,.one (.fix (TV.ptr 65 0))),(4,.one (.fix (TV.ptr 66 0)))] (aH Tryz.prog 321 4).1 (aH Tryz.prog 321 4).2.1 (aH Tryz.prog 321 4).2.2)],70,70,1006⟩
noncomputable def vI:Nat->bv->Int->Int->bv->Bool->Int->Bool->Option (Unit×(g6×(d6×(dg×(d6×(md×Unit))))))
 |0,_,_,_,_,_,_,_=>none
 |n+1,t6,t7,t8,c64_0,c65_0,c66_0,c68_0=>
 bif (aR t8 t7) then
 bif (aQ 0 t8) then
 Option.bind (t6[(Int.toNat t8)]?) fun x8=>
 bif (x8==58) then
 none
 else
 bif (x8==35) then
 none
 else
 bif c68_0 then
 Option.bind (DL (n+1) x8) fun y9=>
 bif y9.1 then
 bif (aQ 0 t8) then
 Option.bind (c64_0[(Int.toNat t8)]?) fun x10=>
 bif (x10==58) then
 none
 else
 bif (aQ 0 t8) then
 Option.bind (c64_0[(Int.toNat t8)]?) fun x11=>
 bif (x11==35) then
 none
 else
 some ((),((c64_0,()),((c65_0,()),((t8,()),((c68_0,()),(((),((),((),()))),()))))))
 else none
 else none
 else
 vI n t6 t7 (zal (t8+1)) c64_0 c65_0 c66_0 c68_0
 else
 none
 else none
 else
 none
noncomputable def Bb:aM:=⟨336,1,none,vq,[(.ret,lM)],3,fun n x=>vI n x.1.2.2.1 x.1.2.2.2.1 x.1.2.2.2.2.1 x.2.1.1 x.2.2.1.1 x.2.2.2.1.1 x.2.2.2.2.1.1,[67],[64,65,68]⟩
theorem yp:lM.ok Tryz.prog hint:=by
 intro p hp;simp only [lM,List.mem_cons,List.not_mem_nil,or_false] at hp;rcases hp with rfl |rfl |rfl |rfl |rfl
 ·trivial
 ·trivial
 ·trivial
 ·trivial
 ·exact jB.of (by kernel_rfl) (by kernel_rfl)
theorem tN:vq.ok Tryz.prog hint:=by
 intro p hp;simp only [vq,List.mem_cons,List.not_mem_nil,or_false] at hp;rcases hp with rfl |rfl |rfl |rfl |rfl
 ·trivial
 ·trivial
 ·trivial
 ·trivial
 ·exact jB.of (by kernel_rfl) (by kernel_rfl)
theorem Mq:∀ n,ao Tryz.prog hint aG Bb n:=
 ao.of (hk:=fun β=>(an.mk [vt] []).hk β) (sh:=aG) (aL.of (by kernel_rfl)) tN ⟨⟨yp,zai _,zai _⟩,trivial⟩ (fun m=>ab.aK (ab.nil.fn FJ) m)
  (fun _=>by kernel_rfl) (fun m x=>by kernel_rfl)
noncomputable def stop (n:Nat) (l:List Int) (flow:Bool):Option dg:=
 Option.bind (vI n l (len l) 0 l flow 0 flow) fun y12=>
 some (y12.2.2.2.1.1,())
noncomputable def Lp:bw:=⟨321,[(false,(.aJ am)),(false,.bool)],[(false,am)],4,fun n x=>stop n x.1 x.2.1⟩
theorem SS (n:Nat):aI Tryz.prog hint aG Lp n:=
 aI.of (hk:=fun β=>(an.mk [] [Bb]).hk β) (sh:=aG) (fun m _=>ab.aK (ab.nil.loop Mq tN) m) (fun x=>by kernel_rfl)
noncomputable def nM:Tm:=⟨[(5,ac)],[],64,64,1000⟩
noncomputable def DP:Tm:=⟨[(0,.one (.aC am)),(5,ac)],[],64,64,1000⟩
noncomputable def Jr:Nat->bv->Int->Option mt
 |0,_,_=>none
 |n+1,t0,t5=>
 bif (aR 0 t5) then
 bif (aQ 0 (zal (t5 - 1))) then
 Option.bind (t0[(Int.toNat (zal (t5 - 1)))]?) fun x5=>
 Option.bind (blank (n+1) x5) fun y6=>
 bif y6.1 then
 none
 else
 some ((t5,()),())
 else none
 else
 none
noncomputable def A4:aM:=⟨301,2,none,DP,[(.exit 0,nM)],1,fun n x=>Jr n x.1.1 x.1.2.1,[],[]⟩
theorem rP:nM.ok Tryz.prog hint:=Tm.dh rfl
theorem tI:DP.ok Tryz.prog hint:=Tm.dh rfl
theorem MD:∀ n,ao Tryz.prog hint aG A4 n:=
 ao.of (hk:=fun β=>(an.mk [fJ] []).hk β) (sh:=aG) (aL.of (by kernel_rfl)) tI ⟨⟨rP,zai _,zai _⟩,trivial⟩ (fun m=>ab.aK (ab.nil.fn gh) m)
  (fun _=>by kernel_rfl) (fun m x=>by kernel_rfl)
noncomputable def TY (n:Nat) (l:List Int) (flow:Bool):Option dg:=
 Option.bind (stop n l flow) fun y0=>
 Option.bind (Jr (n+4) l y0.1) fun y7=>
 some (y7.1.1,())
noncomputable def LB:bw:=⟨301,[(false,(.aJ am)),(false,.bool)],[(false,am)],5,fun n x=>TY n x.1 x.2.1⟩
theorem TU (n:Nat):aI Tryz.prog hint aG LB n:=
 aI.of (hk:=fun β=>(an.mk [Lp] [A4]).hk β) (sh:=aG) (fun m _=>ab.aK ((ab.nil.fn SS).loop MD tI) m) (fun x=>by kernel_rfl)
noncomputable def jo:Tm:=⟨[],[(64,.cells 335 [.aC (.aJ am)] true),(65,.cells 24 [.all 70 3 am .ex] true),(66,.cells 3 [be] true),(67,.cells 3 [be] true),(68,.cells 335 [.aC (.aJ am)] true),(69,.loop 304 Go.LoopState.ready (Option.none) (jw Tryz.prog hint 304) [(1,.one (.fix (TV.ptr 64 0))),(3,.one (.fix (TV.ptr 65 0))),(4,.one (.fix (TV.ptr 66 0))),(5,.one (.fix (TV.ptr 67 0)))] (aH Tryz.prog 304 5).1 (aH Tryz.prog 304 5).2.1 (aH Tryz.prog 304 5).2.2)],70,71,1008⟩
noncomputable def vw:Tm:=⟨[(0,.one (.fix (TV.mX 69))),(1,.one (.fix (TV.ptr 68 0))),(5,.one (.aC (.aJ am))),(6,ac),(7,ac)],[(64,.cells 335 [.aC (.aJ am)] true),(65,.cells 24 [.all 70 3 am .ex] true),(66,.cells 3 [be] true),(67,.cells 3 [be] true),(68,.cells 335 [.aC (.aJ am)] true),(69,.loop 304 Go.LoopState.ready (Option.none) (jw Tryz.prog hint 304) [(1,.one (.fix (TV.ptr 64 0))),(3,.one (.fix (TV.ptr 65 0))),(4,.one (.fix (TV.ptr 66 0))),(5,.one (.fix (TV.ptr 67 0)))] (aH Tryz.prog 304 5).1 (aH Tryz.prog 304 5).2.1 (aH Tryz.prog 304 5).2.2)],70,71,1008⟩
noncomputable def HP:Nat->(List bv)->Int->Int->(List bv)->bv->Int->Int->(List bv)->Option (Unit×(((List bv)×Unit)×(g6×(dg×(dg×(((List bv)×Unit)×((Unit×md)×Unit)))))))
 |0,_,_,_,_,_,_,_,_=>none
 |n+1,t5,t6,t7,c64_0,c65_0,c66_0,c67_0,c68_0=>
 bif (aR t7 t6) then
 bif (aQ 0 t7) then
 Option.bind (t5[(Int.toNat t7)]?) fun x3=>
 bif (aR 0 t7) then
 none
 else
 bif (aR (zal (t7+1)) (len c68_0)) then
 none
 else
 bif (c66_0==0) then
 bif (room (((List.length c65_0)+(List.length x3))*9)) then
 HP n t5 t6 (zal (t7+1)) c64_0 (c65_0++x3) (zal (c66_0+1)) c67_0 c68_0
 else none
 else
 none
 else none
 else
 some ((),((c64_0,()),((c65_0,()),((c66_0,()),((c67_0,()),((c68_0,()),(((),((),((),((),())))),())))))))
noncomputable def Ay:aM:=⟨329,1,none,vw,[(.exit 0,jo)],1,fun n x=>HP n x.1.2.2.1 x.1.2.2.2.1 x.1.2.2.2.2.1 x.2.1.1 x.2.2.1.1 x.2.2.2.1.1 x.2.2.2.2.1.1 x.2.2.2.2.2.1.1,[],[64,67,68]⟩
theorem rI:jo.ok Tryz.prog hint:=by
 intro p hp;simp only [jo,List.mem_cons,List.not_mem_nil,or_false] at hp;rcases hp with rfl |rfl |rfl |rfl |rfl |rfl
 ·trivial
 ·trivial
 ·trivial
 ·trivial
 ·trivial
 ·exact jB.of (by kernel_rfl) (by kernel_rfl)
theorem tE:vw.ok Tryz.prog hint:=by
 intro p hp;simp only [vw,List.mem_cons,List.not_mem_nil,or_false] at hp;rcases hp with rfl |rfl |rfl |rfl |rfl |rfl
 ·trivial
 ·trivial
 ·trivial
 ·trivial
 ·trivial
 ·exact jB.of (by kernel_rfl) (by kernel_rfl)
theorem My:∀ n,ao Tryz.prog hint aG Ay n:=
 ao.of (hk:=fun β=>(an.mk [] []).hk β) (sh:=aG) (aL.of (by kernel_rfl)) tE ⟨⟨rI,zai _,zai _⟩,trivial⟩ (fun m=>ab.aK ab.nil m)
  (fun _=>by kernel_rfl) (fun m x=>by kernel_rfl)
noncomputable def xv (n:Nat) (l:List bv):Option g6:=
 Option.bind (HP n l (len l) 0 l ([]:List Int) 0 0 l) fun y4=>
 some (y4.2.2.1.1,())
noncomputable def sA:bw:=⟨304,[(false,(.aJ (.aJ am)))],[(false,(.aJ am))],2,fun n x=>xv n x.1⟩
theorem DN (n:Nat):aI Tryz.prog hint aG sA n:=
 aI.of (hk:=fun β=>(an.mk [] [Ay]).hk β) (sh:=aG) (fun m _=>ab.aK (ab.nil.loop My tE) m) (fun x=>by kernel_rfl)
set_option maxRecDepth 100000
noncomputable def jW (D:Nat) (F:Nat->ak [(true,(.cons am am))]×aF [(64,.cells 314 [.aC (.cons am (.aJ am)),ap,ap,ap,ap,ap] true)]->Option (PR none (ak [(false,(.aJ am))]×aF []))):bm:=⟨246,[(TV.ptr 64 0)],[(true,(.cons am am))],[(false,(.aJ am))],65,[(64,.cells 314 [.aC (.cons am (.aJ am)),ap,ap,ap,ap,ap] true)],65,[],65,true,none,D,F⟩
theorem ij (D:Nat) (F):(jW D F).T.ok Tryz.prog hint:=by
 intro p hp;simp only [jW,bm.T,List.mem_cons,List.not_mem_nil,or_false] at hp;rcases hp with rfl
 ·trivial
theorem JI (D:Nat) (F):(jW D F).T2.ok Tryz.prog hint:=by
 intro p hp;simp only [jW,bm.T2,List.mem_cons,List.not_mem_nil,or_false] at hp
 
noncomputable def qA (_n:Nat) (p:gt) (c64_0:bi):Option (g6×Unit):=
 bif (aR p.1 0) then
 none
 else
 bif (aQ (len c64_0) p.1) then
 none
 else
 bif (aR p.2 0) then
 none
 else
 bif (aQ 0 p.1) then
 Option.bind (c64_0[(Int.toNat p.1)]?) fun x0=>
 bif (aR p.2 x0.1) then
 none
 else
 bif ((aQ 0 (bif (aR (len x0.2) (zal (p.2 - (bif (aR 0 x0.1) then x0.1 else 0)))) then (len x0.2) else (zal (p.2 - (bif (aR 0 x0.1) then x0.1 else 0))))) &&(aQ (bif (aR (len x0.2) (zal (p.2 - (bif (aR 0 x0.1) then x0.1 else 0)))) then (len x0.2) else (zal (p.2 - (bif (aR 0 x0.1) then x0.1 else 0)))) (len x0.2))) then
 some (((List.take ((List.length x0.2) - (Int.toNat (bif (aR (len x0.2) (zal (p.2 - (bif (aR 0 x0.1) then x0.1 else 0)))) then (len x0.2) else (zal (p.2 - (bif (aR 0 x0.1) then x0.1 else 0)))))) (List.drop (Int.toNat (bif (aR (len x0.2) (zal (p.2 - (bif (aR 0 x0.1) then x0.1 else 0)))) then (len x0.2) else (zal (p.2 - (bif (aR 0 x0.1) then x0.1 else 0))))) x0.2)),()),())
 else none
 else none
noncomputable def iF:bm:=jW 0 (fun n x=>qA n x.1.1 x.2.1.1)
theorem jZ (n:Nat):aN Tryz.prog hint aG iF n:=
 aN.of (hk:=fun β=>(an.mk [] []).hk β) (sh:=aG) (JI _ _) (fun m _=>ab.aK ab.nil m) (fun x s=>by kernel_rfl)
noncomputable def oS (D:Nat) (F:Nat->ak [(true,(.cons am am)),(false,am)]×aF [(64,.cells 314 [.aC (.cons am (.aJ am)),ap,ap,ap,ap,ap] true)]->Option (PR none (ak [(false,.bool)]×aF []))):bm:=⟨296,[(TV.ptr 64 0)],[(true,(.cons am am)),(false,am)],[(false,.bool)],65,[(64,.cells 314 [.aC (.cons am (.aJ am)),ap,ap,ap,ap,ap] true)],65,[],65,true,none,D,F⟩
theorem LY (D:Nat) (F):(oS D F).T.ok Tryz.prog hint:=by
 intro p hp;simp only [oS,bm.T,List.mem_cons,List.not_mem_nil,or_false] at hp;rcases hp with rfl
 ·trivial
theorem Pq (D:Nat) (F):(oS D F).T2.ok Tryz.prog hint:=by
 intro p hp;simp only [oS,bm.T2,List.mem_cons,List.not_mem_nil,or_false] at hp
 
noncomputable def Wh (n:Nat) (p:gt) (c:Int) (c64_0:bi):Option lw:=
 Option.bind (qA n (p.1,p.2) c64_0) fun y0=>
 Option.bind (bif (aR 0 (len y0.1.1)) then
 Option.bind (y0.1.1[0]?) fun x2=>
 some (x2==c)
 else
 none) fun b3=>
 some ((b3,()),())
noncomputable def HJ:bm:=oS 1 (fun n x=>Wh n x.1.1 x.1.2.1 x.2.1.1)
theorem Pm (n:Nat):aN Tryz.prog hint aG HJ n:=
 aN.of (hk:=fun β=>(an.mk [] []).uY [iF] β) (sh:=aG) (Pq _ _) (fun m _=>ab.eE ab.nil (cg.nil.fn jZ (ij _ _)) m) (fun x s=>by kernel_rfl)
noncomputable def fA (D:Nat) (F:Nat->ak [(true,(.cons am am)),(false,(.aJ am))]×aF [(64,.cells 314 [.aC (.cons am (.aJ am)),ap,ap,ap,ap,ap] true)]->Option (PR none (ak [(false,.bool)]×aF []))):bm:=⟨275,[(TV.ptr 64 0)],[(true,(.cons am am)),(false,(.aJ am))],[(false,.bool)],65,[(64,.cells 314 [.aC (.cons am (.aJ am)),ap,ap,ap,ap,ap] true)],65,[],65,true,none,D,F⟩
theorem Cv (D:Nat) (F):(fA D F).T.ok Tryz.prog hint:=by
 intro p hp;simp only [fA,bm.T,List.mem_cons,List.not_mem_nil,or_false] at hp;rcases hp with rfl
 ·trivial
theorem yI (D:Nat) (F):(fA D F).T2.ok Tryz.prog hint:=by
 intro p hp;simp only [fA,bm.T2,List.mem_cons,List.not_mem_nil,or_false] at hp
 
noncomputable def o5 (_n:Nat) (_p:gt) (l:List Int) (c64_0:bi):Option lw:=
 Option.bind (bif ((len l)==0) then
 none
 else
 Option.bind (l[0]?) fun x1=>
 some (x1 !=35)) fun b2=>
 bif b2 then
 some ((false,()),())
 else
 none
noncomputable def sU:bm:=fA 0 (fun n x=>o5 n x.1.1 x.1.2.1 x.2.1.1)
theorem Ew (n:Nat):aN Tryz.prog hint aG sU n:=
 aN.of (hk:=fun β=>(an.mk [] []).hk β) (sh:=aG) (yI _ _) (fun m _=>ab.aK ab.nil m) (fun x s=>by kernel_rfl)
noncomputable def jX (D:Nat) (F:Nat->ak [(true,(.cons am am))]×aF [(64,.cells 314 [.aC (.cons am (.aJ am)),ap,ap,ap,ap,ap] true)]->Option (PR none (ak [(true,(.cons am am)),(false,(.aJ am))]×aF []))):bm:=⟨248,[(TV.ptr 64 0)],[(true,(.cons am am))],[(true,(.cons am am)),(false,(.aJ am))],65,[(64,.cells 314 [.aC (.cons am (.aJ am)),ap,ap,ap,ap,ap] true)],65,[],65,true,none,D,F⟩
theorem se (D:Nat) (F):(jX D F).T.ok Tryz.prog hint:=by
 intro p hp;simp only [jX,bm.T,List.mem_cons,List.not_mem_nil,or_false] at hp;rcases hp with rfl
 ·trivial
theorem JX (D:Nat) (F):(jX D F).T2.ok Tryz.prog hint:=by
 intro p hp;simp only [jX,bm.T2,List.mem_cons,List.not_mem_nil,or_false] at hp
 
noncomputable def ny:Tm:=⟨[(3,.one (.fix (TV.ptr 65 0))),(4,.one (.fix (TV.ptr 66 0))),(6,.one (.aC am))],[(65,.cells 293 [be,be] true),(66,.cells 293 [be,be] true)],67,67,1004⟩
noncomputable def Gi:Tm:=⟨[(3,.one (.fix (TV.ptr 65 0))),(4,.one (.fix (TV.ptr 66 0))),(6,.one (.aC am))],[(65,.cells 293 [be,be] true),(66,.cells 293 [be,be] true)],67,67,1004⟩
noncomputable def C9:Nat->bv->Int->Int->Int->Int->Option ((Unit×(Unit×g6))×(g7×(g7×Unit)))
 |0,_,_,_,_,_=>none
 |n+1,t6,c65_0,c65_1,c66_0,c66_1=>
 bif (aR 0 (len t6)) then
 Option.bind (t6[0]?) fun x6=>
 Option.bind (blank (n+1) x6) fun y7=>
 bif y7.1 then
 none
 else
 some (((),((),(t6,()))),((c65_0,(c65_1,())),((c66_0,(c66_1,())),())))
 else
 some (((),((),(t6,()))),((c65_0,(c65_1,())),((c66_0,(c66_1,())),())))
noncomputable def zF:aM:=⟨248,4,none,Gi,[(.exit 0,ny)],1,fun n x=>C9 n x.1.2.2.1 x.2.1.1 x.2.1.2.1 x.2.2.1.1 x.2.2.1.2.1,[64],[65,66]⟩
theorem rq:ny.ok Tryz.prog hint:=Tm.dh rfl
theorem sY:Gi.ok Tryz.prog hint:=Tm.dh rfl
theorem MX:∀ n,ao Tryz.prog hint aG zF n:=
 ao.of (hk:=fun β=>(an.mk [fJ] []).hk β) (sh:=aG) (aL.of (by kernel_rfl)) sY ⟨⟨rq,zai _,zai _⟩,trivial⟩ (fun m=>ab.aK (ab.nil.fn gh) m)
  (fun _=>by kernel_rfl) (fun m x=>by kernel_rfl)
noncomputable def s5 (n:Nat) (p:gt) (c64_0:bi):Option ((gt×g6)×Unit):=
 bif (aQ 0 p.1) then
 bif (aR p.1 (len c64_0)) then
 bif (aQ 0 p.1) then
 Option.bind (c64_0[(Int.toNat p.1)]?) fun x0=>
 Option.bind (qA n (p.1,(bif (aR p.2 x0.1) then x0.1 else p.2)) c64_0) fun y1=>
 Option.bind (C9 n y1.1.1 p.1 (bif (aR p.2 x0.1) then x0.1 else p.2) 0 0) fun y8=>
 some (((p.1,(bif (aR p.2 x0.1) then x0.1 else p.2)),y8.1.2.2.1,()),())
 else none
 else
 none
 else
 none
noncomputable def oL:bm:=jX 1 (fun n x=>s5 n x.1.1 x.2.1.1)
theorem wg (n:Nat):aN Tryz.prog hint aG oL n:=
 aN.of (hk:=fun β=>(an.mk [] [zF]).uY [iF] β) (sh:=aG) (JX _ _) (fun m _=>ab.eE (ab.nil.loop MX sY) (cg.nil.fn jZ (ij _ _)) m) (fun x s=>by kernel_rfl)
noncomputable def qK (D:Nat) (F:Nat->ak [(true,(.cons am am))]×aF [(64,.cells 314 [.aC (.cons am (.aJ am)),be,ap,ap,ap,ap] true)]->Option (PR none (ak [(true,(.cons am am)),(false,.bool)]×aF []))):bm:=⟨250,[(TV.ptr 64 0)],[(true,(.cons am am))],[(true,(.cons am am)),(false,.bool)],65,[(64,.cells 314 [.aC (.cons am (.aJ am)),be,ap,ap,ap,ap] true)],65,[],65,true,none,D,F⟩
theorem LN (D:Nat) (F):(qK D F).T.ok Tryz.prog hint:=by
 intro p hp;simp only [qK,bm.T,List.mem_cons,List.not_mem_nil,or_false] at hp;rcases hp with rfl
 ·trivial
theorem Rq (D:Nat) (F):(qK D F).T2.ok Tryz.prog hint:=by
 intro p hp;simp only [qK,bm.T2,List.mem_cons,List.not_mem_nil,or_false] at hp
 
noncomputable def mz:Tm:=⟨[],[(64,.cells 314 [.aC (.cons am (.aJ am)),be,ap,ap,ap,ap] true),(65,.cells 290 [.fix (TV.ptr 64 0)] true),(66,.cells 293 [be,be] true),(67,.cells 293 [be,be] true),(68,.cells 4 [.bool] true),(69,.cells 290 [.fix (TV.ptr 64 0)] true),(70,.cells 293 [be,be] true),(71,.loop 250 Go.LoopState.done (Option.some Go.Code.ret) (jw Tryz.prog hint 250) [(2,.one (.fix (TV.ptr 65 0))),(3,.one (.fix (TV.ptr 66 0))),(4,.one (.fix (TV.ptr 67 0))),(5,.one (.fix (TV.ptr 68 0)))] (aH Tryz.prog 250 4).1 (aH Tryz.prog 250 4).2.1 (aH Tryz.prog 250 4).2.2)],72,72,1008⟩
noncomputable def wz:Tm:=⟨[(0,.one (.fix (TV.mX 71))),(1,.one (.fix (TV.ptr 69 0))),(2,.one (.fix (TV.ptr 70 0)))],[(64,.cells 314 [.aC (.cons am (.aJ am)),be,ap,ap,ap,ap] true),(65,.cells 290 [.fix (TV.ptr 64 0)] true),(66,.cells 293 [be,be] true),(67,.cells 293 [be,be] true),(68,.cells 4 [.bool] true),(69,.cells 290 [.fix (TV.ptr 64 0)] true),(70,.cells 293 [be,be] true),(71,.loop 250 Go.LoopState.ready (Option.none) (jw Tryz.prog hint 250) [(2,.one (.fix (TV.ptr 65 0))),(3,.one (.fix (TV.ptr 66 0))),(4,.one (.fix (TV.ptr 67 0))),(5,.one (.fix (TV.ptr 68 0)))] (aH Tryz.prog 250 4).1 (aH Tryz.prog 250 4).2.1 (aH Tryz.prog 250 4).2.2)],72,72,1008⟩
noncomputable def IE:Nat->bi->Int->Int->Int->Int->Int->Bool->Int->Int->Option (Unit×((bi×(Int×(Unit×md)))×(d9×(g7×(g7×(d6×(d9×(g7×((Unit×md)×Unit)))))))))
 |0,_,_,_,_,_,_,_,_,_=>none
 |n+1,c64_0,c64_1,c66_0,c66_1,_,_,_,c70_0,c70_1=>
 Option.bind (s5 (n+1) (c70_0,c70_1) c64_0) fun y4=>
 bif (aR 0 (len y4.1.2.1)) then
 Option.bind (o5 (n+2) (y4.1.1.1,y4.1.1.2) y4.1.2.1 c64_0) fun y5=>
 bif (!(!y5.1.1)) then
 none
 else
 bif (aR c66_0 y4.1.1.1) then
 none
 else
 some ((),((c64_0,(c64_1,((),((),((),((),())))))),(((),()),((c66_0,(c66_1,())),((y4.1.1.1,(y4.1.1.2,())),((true,()),(((),()),((c70_0,(c70_1,())),(((),((),((),((),())))),())))))))))
 else
 none
noncomputable def AW:aM:=⟨274,0,none,wz,[(.ret,mz)],2,fun n x=>IE n x.2.1.1 x.2.1.2.1 x.2.2.2.1.1 x.2.2.2.1.2.1 x.2.2.2.2.1.1 x.2.2.2.2.1.2.1 x.2.2.2.2.2.1.1 x.2.2.2.2.2.2.2.1.1 x.2.2.2.2.2.2.2.1.2.1,[],[64,65,66,69,70]⟩
theorem xK:mz.ok Tryz.prog hint:=by
 intro p hp;simp only [mz,List.mem_cons,List.not_mem_nil,or_false] at hp;rcases hp with rfl |rfl |rfl |rfl |rfl |rfl |rfl |rfl
 ·trivial
 ·trivial
 ·trivial
 ·trivial
 ·trivial
 ·trivial
 ·trivial
 ·exact jB.of (by kernel_rfl) (by kernel_rfl)
theorem tJ:wz.ok Tryz.prog hint:=by
 intro p hp;simp only [wz,List.mem_cons,List.not_mem_nil,or_false] at hp;rcases hp with rfl |rfl |rfl |rfl |rfl |rfl |rfl |rfl
 ·trivial
 ·trivial
 ·trivial
 ·trivial
 ·trivial
 ·trivial
 ·trivial
 ·exact jB.of (by kernel_rfl) (by kernel_rfl)
theorem MV:∀ n,ao Tryz.prog hint aG AW n:=
 ao.of (hk:=fun β=>(an.mk [] []).uY [sU,oL] β) (sh:=aG) (aL.of (by kernel_rfl)) tJ ⟨⟨xK,zai _,zai _⟩,trivial⟩ (fun m=>ab.eE ab.nil ((cg.nil.fn wg (se _ _)).fn Ew (Cv _ _)) m)
  (fun _=>by kernel_rfl) (fun m x=>by kernel_rfl)
noncomputable def Xt (n:Nat) (p:gt) (c64_0:bi) (c64_1:Int):Option ((gt×d6)×Unit):=
 Option.bind (IE n c64_0 c64_1 p.1 p.2 0 0 false p.1 p.2) fun y6=>
 some (((y6.2.2.2.2.1.1,y6.2.2.2.2.1.2.1),y6.2.2.2.2.2.1.1,()),())
noncomputable def J3:bm:=qK 3 (fun n x=>Xt n x.1.1 x.2.1.1 x.2.1.2.1)
theorem RD (n:Nat):aN Tryz.prog hint aG J3 n:=
 aN.of (hk:=fun β=>(an.mk [] [AW]).hk β) (sh:=aG) (Rq _ _) (fun m _=>ab.aK (ab.nil.loop MV tJ) m) (fun x s=>by kernel_rfl)
noncomputable def jF (D:Nat) (F:Nat->ak [(true,(.cons am am))]×aF [(64,.cells 314 [.aC (.cons am (.aJ am)),be,ap,ap,ap,ap] true)]->Option (PR (some 297) (ak [(true,(.cons am am))]×aF []))):bm:=⟨295,[(TV.ptr 64 0)],[(true,(.cons am am))],[(true,(.cons am am))],65,[(64,.cells 314 [.aC (.cons am (.aJ am)),be,ap,ap,ap,ap] true)],65,[],65,true,(some 297),D,F⟩
theorem Ah (D:Nat) (F):(jF D F).T.ok Tryz.prog hint:=by
 intro p hp;simp only [jF,bm.T,List.mem_cons,List.not_mem_nil,or_false] at hp;rcases hp with rfl
 ·trivial
theorem IF (D:Nat) (F):(jF D F).T2.ok Tryz.prog hint:=by
 intro p hp;simp only [jF,bm.T2,List.mem_cons,List.not_mem_nil,or_false] at hp
 
noncomputable def yk (n:Nat) (p:gt) (c64_0:bi) (c64_1:Int):Option (((gt×Unit)×Unit)⊕Int):=
 Option.bind (Xt n (p.1,p.2) c64_0 c64_1) fun y0=>
 bif (!y0.1.2.1) then
 none
 else
 some (.inl (((y0.1.1.1,y0.1.1.2),()),()))
noncomputable def wm:bm:=jF 4 (fun n x=>yk n x.1.1 x.2.1.1 x.2.1.2.1)
theorem DZ (n:Nat):aN Tryz.prog hint aG wm n:=
 aN.of (hk:=fun β=>(an.mk [] []).uY [J3] β) (sh:=aG) (IF _ _) (fun m _=>ab.eE ab.nil (cg.nil.fn RD (LN _ _)) m) (fun x s=>by kernel_rfl)
noncomputable def gq (D:Nat) (F:Nat->ak [(true,(.cons am am))]×aF [(64,.cells 314 [.aC (.cons am (.aJ am)),be,ap,ap,ap,ap] true)]->Option (PR (some 297) (ak [(true,(.cons .str (.cons .str (.cons am am)))),(true,(.cons am am)),(false,.bool)]×aF []))):bm:=⟨239,[(TV.ptr 64 0)],[(true,(.cons am am))],[(true,(.cons .str (.cons .str (.cons am am)))),(true,(.cons am am)),(false,.bool)],65,[(64,.cells 314 [.aC (.cons am (.aJ am)),be,ap,ap,ap,ap] true)],65,[],65,true,(some 297),D,F⟩
theorem tf (D:Nat) (F):(gq D F).T.ok Tryz.prog hint:=by
 intro p hp;simp only [gq,bm.T,List.mem_cons,List.not_mem_nil,or_false] at hp;rcases hp with rfl
 ·trivial
theorem BU (D:Nat) (F):(gq D F).T2.ok Tryz.prog hint:=by
 intro p hp;simp only [gq,bm.T2,List.mem_cons,List.not_mem_nil,or_false] at hp
 
noncomputable def nH:Tm:=⟨[(4,.one (.fix (TV.ptr 66 0))),(5,.one (.fix (TV.ptr 67 0))),(7,.one (.fix (TV.ptr 68 0))),(8,.one (.fix (TV.ptr 69 0))),(9,.one (.bool))],[(64,.cells 314 [.aC (.cons am (.aJ am)),be,ap,ap,ap,ap] true),(66,.cells 295 [.str,.str,be,be] true),(67,.cells 293 [be,be] true),(68,.cells 295 [.str,.str,be,be] true),(69,.cells 293 [be,be] true)],70,70,1007⟩
noncomputable def E5:Tm:=⟨[(0,.one (.fix (TV.ptr 64 0))),(4,.one (.fix (TV.ptr 66 0))),(5,.one (.fix (TV.ptr 67 0))),(7,.one (.fix (TV.ptr 68 0))),(8,.one (.fix (TV.ptr 69 0))),(9,.one (.bool))],[(64,.cells 314 [.aC (.cons am (.aJ am)),be,ap,ap,ap,ap] true),(66,.cells 295 [.str,.str,be,be] true),(67,.cells 293 [be,be] true),(68,.cells 295 [.str,.str,be,be] true),(69,.cells 293 [be,be] true)],70,70,1007⟩
noncomputable def JY:Nat->Bool->bi->Int->d7->d7->Int->Int->Int->Int->d7->d7->Int->Int->Int->Int->Option ((Unit×(Unit×(Unit×(Unit×d6))))×((bi×(Int×(Unit×md)))×((d7×(d7×g7))×(g7×((d7×(d7×g7))×(g7×Unit))))))
 |0,_,_,_,_,_,_,_,_,_,_,_,_,_,_,_=>none
 |n+1,t9,c64_0,c64_1,c66_0,c66_1,c66_2,c66_3,c67_0,c67_1,c68_0,c68_1,c68_2,c68_3,c69_0,c69_1=>
 bif t9 then
 Option.bind (qA (n+1) (c69_0,c69_1) c64_0) fun y11=>
 Option.bind (bif ((len y11.1.1)==0) then
 none
 else
 Option.bind (y11.1.1[0]?) fun x13=>
 bif (x13 !=38) then
 Option.bind (y11.1.1[0]?) fun x14=>
 some (x14 !=33)
 else
 none) fun b15=>
 bif b15 then
 some (((),((),((),((),(t9,()))))),((c64_0,(c64_1,((),((),((),((),())))))),((c66_0,(c66_1,(c66_2,(c66_3,())))),((c67_0,(c67_1,())),((c68_0,(c68_1,(c68_2,(c68_3,())))),((c69_0,(c69_1,())),()))))))
 else
 none
 else
 none
noncomputable def zD:aM:=⟨239,3,none,E5,[(.exit 0,nH)],2,fun n x=>JY n x.1.2.2.2.2.2.1 x.2.1.1 x.2.1.2.1 x.2.2.1.1 x.2.2.1.2.1 x.2.2.1.2.2.1 x.2.2.1.2.2.2.1 x.2.2.2.1.1 x.2.2.2.1.2.1 x.2.2.2.2.1.1 x.2.2.2.2.1.2.1 x.2.2.2.2.1.2.2.1 x.2.2.2.2.1.2.2.2.1 x.2.2.2.2.2.1.1 x.2.2.2.2.2.1.2.1,[65],[64,66,67,68,69]⟩
theorem rN:nH.ok Tryz.prog hint:=Tm.dh rfl
theorem tA:E5.ok Tryz.prog hint:=Tm.dh rfl
theorem NF:∀ n,ao Tryz.prog hint aG zD n:=
 ao.of (hk:=fun β=>(an.mk [] []).uY [iF] β) (sh:=aG) (aL.of (by kernel_rfl)) tA ⟨⟨rN,zai _,zai _⟩,trivial⟩ (fun m=>ab.eE ab.nil (cg.nil.fn jZ (ij _ _)) m)
  (fun _=>by kernel_rfl) (fun m x=>by kernel_rfl)
noncomputable def pc (n:Nat) (p:gt) (c64_0:bi) (c64_1:Int):Option ((((List UInt8×lc)×(gt×d6))×Unit)⊕Int):=
 Option.bind (Xt n (p.1,p.2) c64_0 c64_1) fun y0=>
 Option.bind (JY (n+2) y0.1.2.1 c64_0 c64_1 ([]:List UInt8) ([]:List UInt8) 0 0 0 0 ([]:List UInt8) ([]:List UInt8) 0 0 y0.1.1.1 y0.1.1.2) fun y16=>
 some (.inl (((([]:List UInt8),(([]:List UInt8),(0,0))),(y0.1.1.1,y0.1.1.2),y16.1.2.2.2.2.1,()),()))
noncomputable def nT:bm:=gq 4 (fun n x=>pc n x.1.1 x.2.1.1 x.2.1.2.1)
theorem wL (n:Nat):aN Tryz.prog hint aG nT n:=
 aN.of (hk:=fun β=>(an.mk [] [zD]).uY [J3] β) (sh:=aG) (BU _ _) (fun m _=>ab.eE (ab.nil.loop NF tA) (cg.nil.fn RD (LN _ _)) m) (fun x s=>by kernel_rfl)
noncomputable def iB (D:Nat) (F:Nat->ak [(true,(.cons am am)),(false,am)]×aF [(64,.cells 314 [.aC (.cons am (.aJ am)),ap,ap,ap,ap,ap] true)]->Option (PR none (ak [(false,.bool)]×aF []))):bm:=⟨312,[(TV.ptr 64 0)],[(true,(.cons am am)),(false,am)],[(false,.bool)],65,[(64,.cells 314 [.aC (.cons am (.aJ am)),ap,ap,ap,ap,ap] true)],65,[],65,true,none,D,F⟩
theorem xx (D:Nat) (F):(iB D F).T.ok Tryz.prog hint:=by
 intro p hp;simp only [iB,bm.T,List.mem_cons,List.not_mem_nil,or_false] at hp;rcases hp with rfl
 ·trivial
theorem GI (D:Nat) (F):(iB D F).T2.ok Tryz.prog hint:=by
 intro p hp;simp only [iB,bm.T2,List.mem_cons,List.not_mem_nil,or_false] at hp
 
noncomputable def xb (n:Nat) (p:gt) (c:Int) (c64_0:bi):Option lw:=
 Option.bind (qA n (p.1,p.2) c64_0) fun y0=>
 bif (aR 0 (len y0.1.1)) then
 Option.bind (y0.1.1[0]?) fun x1=>
 bif (x1==c) then
 none
 else
 some ((false,()),())
 else
 none
noncomputable def rf:bm:=iB 1 (fun n x=>xb n x.1.1 x.1.2.1 x.2.1.1)
theorem zX (n:Nat):aN Tryz.prog hint aG rf n:=
 aN.of (hk:=fun β=>(an.mk [] []).uY [iF] β) (sh:=aG) (GI _ _) (fun m _=>ab.eE ab.nil (cg.nil.fn jZ (ij _ _)) m) (fun x s=>by kernel_rfl)
noncomputable def jH (D:Nat) (F:Nat->ak [(true,(.cons am am)),(true,(.cons (.cons am am) .bool))]×aF [(64,.cells 314 [.aC (.cons am (.aJ am)),ap,ap,ap,ap,ap] true)]->Option (PR none (ak [(false,.bool)]×aF []))):bm:=⟨315,[(TV.ptr 64 0)],[(true,(.cons am am)),(true,(.cons (.cons am am) .bool))],[(false,.bool)],65,[(64,.cells 314 [.aC (.cons am (.aJ am)),ap,ap,ap,ap,ap] true)],65,[],65,true,none,D,F⟩
theorem M4 (D:Nat) (F):(jH D F).T.ok Tryz.prog hint:=by
 intro p hp;simp only [jH,bm.T,List.mem_cons,List.not_mem_nil,or_false] at hp;rcases hp with rfl
 ·trivial
theorem JU (D:Nat) (F):(jH D F).T2.ok Tryz.prog hint:=by
 intro p hp;simp only [jH,bm.T2,List.mem_cons,List.not_mem_nil,or_false] at hp
 
noncomputable def KA (n:Nat) (p:gt) (key:(gt×Bool)) (c64_0:bi):Option lw:=
 Option.bind (xb n (p.1,p.2) 58 c64_0) fun y0=>
 bif y0.1.1 then
 none
 else
 Option.bind (Wh n (p.1,p.2) 58 c64_0) fun y1=>
 bif y1.1.1 then
 none
 else
 some ((false,()),())
noncomputable def Fa:bm:=jH 2 (fun n x=>KA n x.1.1 x.1.2.1 x.2.1.1)
theorem Ov (n:Nat):aN Tryz.prog hint aG Fa n:=
 aN.of (hk:=fun β=>(an.mk [] []).uY [HJ,rf] β) (sh:=aG) (JU _ _) (fun m _=>ab.eE ab.nil ((cg.nil.fn zX (xx _ _)).fn Pm (LY _ _)) m) (fun x s=>by kernel_rfl)
noncomputable def fL (D:Nat) (F:Nat->ak []×aF [(64,.cells 314 [ap,ap,.bool,ap,.all 65 3 am .any,ap] true)]->Option (PR none (ak [(false,.bool)]×aF []))):bm:=⟨271,[(TV.ptr 64 0)],[],[(false,.bool)],65,[(64,.cells 314 [ap,ap,.bool,ap,.all 65 3 am .any,ap] true)],66,[],65,true,none,D,F⟩
theorem qE (D:Nat) (F):(fL D F).T.ok Tryz.prog hint:=by
 intro p hp;simp only [fL,bm.T,List.mem_cons,List.not_mem_nil,or_false] at hp;rcases hp with rfl
 ·trivial
theorem yY (D:Nat) (F):(fL D F).T2.ok Tryz.prog hint:=by
 intro p hp;simp only [fL,bm.T2,List.mem_cons,List.not_mem_nil,or_false] at hp
 
noncomputable def lO (_n:Nat) (c64_2:Bool) (c64_4:bv):Option lw:=
 bif c64_2 then
 some ((((len c64_4)==0),()),())
 else
 none
noncomputable def lA:bm:=fL 1 (fun n x=>lO n x.2.1.2.2.1 x.2.1.2.2.2.2.1)
theorem sK (n:Nat):aN Tryz.prog hint aG lA n:=
 aN.of (hk:=fun β=>(an.mk [] []).hk β) (sh:=aG) (yY _ _) (fun m _=>ab.aK ab.nil m) (fun x s=>by kernel_rfl)
noncomputable def jT (D:Nat) (F:Nat->ak [(false,am)]×aF [(64,.cells 314 [ap,ap,ap,be,.all 65 3 am .any,ap] true)]->Option (PR (some 297) (ak []×aF []))):bm:=⟨316,[(TV.ptr 64 0)],[(false,am)],[],65,[(64,.cells 314 [ap,ap,ap,be,.all 65 3 am .any,ap] true)],66,[],65,true,(some 297),D,F⟩
theorem NH (D:Nat) (F):(jT D F).T.ok Tryz.prog hint:=by
 intro p hp;simp only [jT,bm.T,List.mem_cons,List.not_mem_nil,or_false] at hp;rcases hp with rfl
 ·trivial
theorem Ib (D:Nat) (F):(jT D F).T2.ok Tryz.prog hint:=by
 intro p hp;simp only [jT,bm.T2,List.mem_cons,List.not_mem_nil,or_false] at hp
 
noncomputable def KU (_n:Nat) (within:Int) (c64_3:Int) (c64_4:bv):Option (d9⊕Int):=
 bif (aQ 200 c64_3) then
 none
 else
 bif (aQ 200 (zal ((zal (c64_3+(len c64_4)))+within))) then
 some (.inr 8)
 else
 some (.inl ((()),()))
noncomputable def FT:bm:=jT 1 (fun n x=>KU n x.1.1 x.2.1.2.2.2.1 x.2.1.2.2.2.2.1)
theorem QI (n:Nat):aN Tryz.prog hint aG FT n:=
 aN.of (hk:=fun β=>(an.mk [] []).hk β) (sh:=aG) (Ib _ _) (fun m _=>ab.aK ab.nil m) (fun x s=>by kernel_rfl)
set_option maxRecDepth 100000
noncomputable def iK (D:Nat) (F:Nat->ak [(true,(.cons am am)),(false,(.aJ am)),(true,(.cons .str (.cons .str (.cons am am))))]×aF [(64,.cells 314 [.aC (.cons am (.aJ am)),be,.bool,be,.all 65 3 am .any,.all 66 59 ff .any] true)]->Option (PR (some 297) (ak [(true,(.cons am am))]×aF [(64,.cells 314 [.aC (.cons am (.aJ am)),be,.bool,be,.all 65 3 am .any,.all 66 59 ff .any] true)]))):bm:=⟨272,[(TV.ptr 64 0)],[(true,(.cons am am)),(false,(.aJ am)),(true,(.cons .str (.cons .str (.cons am am))))],[(true,(.cons am am))],65,[(64,.cells 314 [.aC (.cons am (.aJ am)),be,.bool,be,.all 65 3 am .any,.all 66 59 ff .any] true)],67,[(64,.cells 314 [.aC (.cons am (.aJ am)),be,.bool,be,.all 65 3 am .any,.all 66 59 ff .any] true)],67,false,(some 297),D,F⟩
theorem HE (D:Nat) (F):(iK D F).T.ok Tryz.prog hint:=by
 intro p hp;simp only [iK,bm.T,List.mem_cons,List.not_mem_nil,or_false] at hp;rcases hp with rfl
 ·trivial
theorem Fc (D:Nat) (F):(iK D F).T2.ok Tryz.prog hint:=by
 intro p hp;simp only [iK,bm.T2,List.mem_cons,List.not_mem_nil,or_false] at hp;rcases hp with rfl
 ·trivial
noncomputable def tt:Tm:=⟨[(8,.one (.fix (TV.ptr 69 0)))],[(64,.cells 314 [.aC (.cons am (.aJ am)),be,.bool,be,.all 70 3 am .any,.all 71 59 ff .any] true),(67,.cells 293 [be,be] true),(68,.cells 295 [.str,.str,be,be] true),(69,.cells 293 [be,be] true)],70,72,1004⟩
noncomputable def EL:Tm:=⟨[(0,.one (.fix (TV.ptr 64 0))),(2,.one (.aC am)),(5,.one (.fix (TV.ptr 67 0))),(7,.one (.fix (TV.ptr 68 0))),(8,.one (.fix (TV.ptr 69 0))),(9,.one (.fix (TV.raw (Go.Value.slice (Option.none) 0 0))))],[(64,.cells 314 [.aC (.cons am (.aJ am)),be,.bool,be,.all 70 3 am .any,.all 71 59 ff .any] true),(67,.cells 293 [be,be] true),(68,.cells 295 [.str,.str,be,be] true),(69,.cells 293 [be,be] true)],70,72,1004⟩
noncomputable def J6:Nat->bv->bi->Int->Bool->Int->bv->dw->Int->Int->d7->d7->Int->Int->Int->Int->Option (d9×(i7×(g7×((d7×(d7×g7))×(g7×Unit)))))
 |0,_,_,_,_,_,_,_,_,_,_,_,_,_,_,_=>none
 |n+1,t2,c64_0,c64_1,c64_2,c64_3,c64_4,c64_5,c67_0,c67_1,c68_0,c68_1,c68_2,c68_3,_,_=>
 Option.bind (lO (n+5) c64_2 c64_4) fun y10=>
 Option.bind (TY (n+1) t2 (!y10.1.1)) fun y11=>
 bif ((aQ 0 y11.1) &&(aQ y11.1 (len t2))) then
 Option.bind (s5 (n+5) (c67_0,(zal (c67_1+y11.1))) c64_0) fun y12=>
 bif ((len y12.1.2.1)==0) then
 none
 else
 Option.bind (xv (n+4) ((List.take ((Int.toNat y11.1) - 0) (List.drop 0 t2)):: [])) fun y13=>
 Option.bind (bytes (n+4) y13.1) fun y14=>
 bif (room (((List.length c64_5)+(List.length (((7:Int),(y14.1,(c68_1,(c68_0,((1:Int),false))))):: [])))*73)) then
 some (((),()),((c64_0,(c64_1,(c64_2,(c64_3,(c64_4,((c64_5++((7,(y14.1,(c68_1,(c68_0,(1,false))))):: [])),())))))),((c67_0,(c67_1,())),((c68_0,(c68_1,(c68_2,(c68_3,())))),((c67_0,((zal (c67_1+y11.1)),())),())))))
 else none
 else none
noncomputable def Ag:aM:=⟨272,2,none,EL,[(.ret,tt)],6,fun n x=>J6 n x.1.2.1 x.2.1.1 x.2.1.2.1 x.2.1.2.2.1 x.2.1.2.2.2.1 x.2.1.2.2.2.2.1 x.2.1.2.2.2.2.2.1 x.2.2.1.1 x.2.2.1.2.1 x.2.2.2.1.1 x.2.2.2.1.2.1 x.2.2.2.1.2.2.1 x.2.2.2.1.2.2.2.1 x.2.2.2.2.1.1 x.2.2.2.2.1.2.1,[],[67,68]⟩
theorem xg:tt.ok Tryz.prog hint:=Tm.dh rfl
theorem sP:EL.ok Tryz.prog hint:=Tm.dh rfl
theorem Nu:∀ n,ao Tryz.prog hint aG Ag n:=
 ao.of (hk:=fun β=>(an.mk [D5,sA,LB] []).uY [oL,lA] β) (sh:=aG) (aL.of (by kernel_rfl)) sP ⟨⟨xg,zai _,zai _⟩,trivial⟩ (fun m=>ab.eE (((ab.nil.fn TU).fn DN).fn Ow) ((cg.nil.fn sK (qE _ _)).fn wg (se _ _)) m)
  (fun _=>by kernel_rfl) (fun m x=>by kernel_rfl)
noncomputable def De (n:Nat) (p:gt) (l:List Int) (t:(List UInt8×lc)) (c64_0:bi) (c64_1:Int) (c64_2:Bool) (c64_3:Int) (c64_4:bv) (c64_5:dw):Option (((gt×Unit)×(i7×Unit))⊕Int):=
 Option.bind (J6 n l c64_0 c64_1 c64_2 c64_3 c64_4 c64_5 p.1 p.2 t.1 t.2.1 t.2.2.1 t.2.2.2 0 0) fun y15=>
 some (.inl (((y15.2.2.2.2.1.1,y15.2.2.2.2.1.2.1),()),((y15.2.1.1,(y15.2.1.2.1,(y15.2.1.2.2.1,(y15.2.1.2.2.2.1,(y15.2.1.2.2.2.2.1,(y15.2.1.2.2.2.2.2.1,())))))),())))
noncomputable def Av:bm:=iK 6 (fun n x=>De n x.1.1 x.1.2.1 x.1.2.2.1 x.2.1.1 x.2.1.2.1 x.2.1.2.2.1 x.2.1.2.2.2.1 x.2.1.2.2.2.2.1 x.2.1.2.2.2.2.2.1)
theorem NS (n:Nat):aN Tryz.prog hint aG Av n:=
 aN.of (hk:=fun β=>(an.mk [] [Ag]).hk β) (sh:=aG) (Fc _ _) (fun m _=>ab.aK (ab.nil.loop Nu sP) m) (fun x s=>by kernel_rfl)
set_option maxRecDepth 100000
noncomputable def eo (D:Nat) (F:Nat->ak [(true,(.cons am am))]×aF [(64,.cells 314 [.aC (.cons am (.aJ am)),be,.bool,be,.all 65 3 am .any,.all 66 59 ff .any] true)]->Option (PR (some 297) (ak [(true,(.cons (.cons am am) .bool))]×aF [(64,.cells 314 [.aC (.cons am (.aJ am)),be,.bool,be,.all 65 3 am .any,.all 66 59 ff .any] true)]))):bm:=⟨256,[(TV.ptr 64 0)],[(true,(.cons am am))],[(true,(.cons (.cons am am) .bool))],65,[(64,.cells 314 [.aC (.cons am (.aJ am)),be,.bool,be,.all 65 3 am .any,.all 66 59 ff .any] true)],67,[(64,.cells 314 [.aC (.cons am (.aJ am)),be,.bool,be,.all 65 3 am .any,.all 66 59 ff .any] true)],67,false,(some 297),D,F⟩
theorem ri (D:Nat) (F):(eo D F).T.ok Tryz.prog hint:=by
 intro p hp;simp only [eo,bm.T,List.mem_cons,List.not_mem_nil,or_false] at hp;rcases hp with rfl
 ·trivial
theorem Hy (D:Nat) (F):(eo D F).T2.ok Tryz.prog hint:=by
 intro p hp;simp only [eo,bm.T2,List.mem_cons,List.not_mem_nil,or_false] at hp;rcases hp with rfl
 ·trivial
noncomputable def wR (Fr:Nat->gt->bi->Int->Bool->Int->bv->dw->Option ci):bm:=eo 0 (fun n x=>Fr n x.1.1 x.2.1.1 x.2.1.2.1 x.2.1.2.2.1 x.2.1.2.2.2.1 x.2.1.2.2.2.2.1 x.2.1.2.2.2.2.2.1)
noncomputable def nK:Tm:=⟨[(0,.one (.fix (TV.ptr 64 0))),(8,.one (.fix (TV.ptr 73 0))),(9,ac),(12,.one (.fix (TV.ptr 82 0)))],[(64,.cells 314 [.aC (.cons am (.aJ am)),be,.bool,be,.all 83 3 am .any,.all 84 59 ff .any] true),(73,.cells 293 [be,be] true),(82,.cells 293 [be,be] true)],83,85,1023⟩
noncomputable def mr:Tm:=⟨[(0,ac)],[],83,83,1023⟩
noncomputable def Ho:Tm:=⟨[(0,.one (.fix (TV.ptr 64 0))),(8,.one (.fix (TV.ptr 73 0))),(9,ac),(10,ac),(11,.one (.fix (TV.fn 292 ((TV.ptr 64 0):: []) []))),(12,.one (.fix (TV.ptr 82 0)))],[(64,.cells 314 [.aC (.cons am (.aJ am)),be,.bool,be,.all 83 3 am .any,.all 84 59 ff .any] true),(73,.cells 293 [be,be] true),(82,.cells 293 [be,be] true)],83,85,1023⟩
noncomputable def nZ (Fr:Nat->gt->bi->Int->Bool->Int->bv->dw->Option ci):Nat->Int->Int->bi->Int->Bool->Int->bv->dw->Int->Int->Int->Int->Option (((Unit×(Unit×(Int×d9)))×(i7×(g7×(g7×Unit))))⊕mt)
 |0,_,_,_,_,_,_,_,_,_,_,_,_=>none
 |n+1,t9,t10,c64_0,c64_1,c64_2,c64_3,c64_4,c64_5,c73_0,c73_1,c82_0,c82_1=>
 Option.bind (Wh (n+5) (c82_0,c82_1) t10 c64_0) fun y53=>
 bif (!y53.1.1) then
 Option.bind (xb (n+4) (c82_0,c82_1) 63 c64_0) fun y54=>
 bif y54.1.1 then
 none
 else
 Option.bind (Fr (n+5) (c82_0,c82_1) c64_0 c64_1 c64_2 c64_3 c64_4 c64_5) fun y55=>
 match y55 with
  | .inl y56=>
  Option.bind (yk (n+1) (y56.1.1.1.1,y56.1.1.1.2) y56.2.1.1 y56.2.1.2.1) fun y57=>
  match y57 with
   | .inl y58=>
   bif (y56.1.1.1.1 !=c82_0) then
   none
   else
   bif (y58.1.1.1 !=c82_0) then
   none
   else
   bif (aR 1024 (zal (y58.1.1.2 - c82_1))) then
   none
   else
   Option.bind (KA (n+3) (y58.1.1.1,y58.1.1.2) ((y56.1.1.1.1,y56.1.1.1.2),y56.1.1.2) y56.2.1.1) fun y59=>
   bif (!y59.1.1) then
   Option.bind (yk (n+2) (y56.1.1.1.1,y56.1.1.1.2) y56.2.1.1 y56.2.1.2.1) fun y60=>
   match y60 with
    | .inl y61=>
    Option.bind (Wh (n+5) (y61.1.1.1,y61.1.1.2) 44 y56.2.1.1) fun y62=>
    bif (!y62.1.1) then
    Option.bind (Wh (n+5) (y61.1.1.1,y61.1.1.2) t10 y56.2.1.1) fun y63=>
    bif (!y63.1.1) then
    none
    else
    some (.inl (((),((),(t9,((),())))),((y56.2.1.1,(y56.2.1.2.1,(y56.2.1.2.2.1,(y56.2.1.2.2.2.1,(y56.2.1.2.2.2.2.1,(y56.2.1.2.2.2.2.2.1,())))))),((c73_0,(c73_1,())),((y61.1.1.1,(y61.1.1.2,())),())))))
    else
    Option.bind (yk (n+2) (y61.1.1.1,(zal (y61.1.1.2+1))) y56.2.1.1 y56.2.1.2.1) fun y64=>
    match y64 with
     | .inl y65=>
     nZ Fr n t9 t10 y56.2.1.1 y56.2.1.2.1 y56.2.1.2.2.1 y56.2.1.2.2.2.1 y56.2.1.2.2.2.2.1 y56.2.1.2.2.2.2.2.1 c73_0 c73_1 y65.1.1.1 y65.1.1.2
     | .inr e66=>
     some (.inr ((e66,()),()))
    | .inr e67=>
    some (.inr ((e67,()),()))
   else
   none
   | .inr e68=>
   some (.inr ((e68,()),()))
  | .inr e69=>
  some (.inr ((e69,()),()))
 else
 some (.inl (((),((),(t9,((),())))),((c64_0,(c64_1,(c64_2,(c64_3,(c64_4,(c64_5,())))))),((c73_0,(c73_1,())),((c82_0,(c82_1,())),())))))
noncomputable def zT (Fr:Nat->gt->bi->Int->Bool->Int->bv->dw->Option ci):aM:=⟨269,6,none,Ho,[(.exit 0,nK),(.Ju 297,mr)],6,fun n x=>nZ Fr n x.1.2.2.1 x.1.2.2.2.1 x.2.1.1 x.2.1.2.1 x.2.1.2.2.1 x.2.1.2.2.2.1 x.2.1.2.2.2.2.1 x.2.1.2.2.2.2.2.1 x.2.2.1.1 x.2.2.1.2.1 x.2.2.2.1.1 x.2.2.2.1.2.1,[67,68,69,70,71,72,74,75,76,78,80,81],[73]⟩
theorem rm:nK.ok Tryz.prog hint:=Tm.dh rfl
theorem qR:mr.ok Tryz.prog hint:=Tm.dh rfl
theorem tR:Ho.ok Tryz.prog hint:=Tm.dh rfl
theorem L6 (Fr:Nat->gt->bi->Int->Bool->Int->bv->dw->Option ci) (hFr:∀ m,aN Tryz.prog hint aG (wR Fr) m):∀ n,ao Tryz.prog hint aG (zT Fr) n:=
 ao.of (hk:=fun β=>(an.mk [] []).uY [Fa,wm,(wR Fr),rf,HJ] β) (sh:=aG) (aL.of (by kernel_rfl)) tR ⟨⟨rm,zai _,zai _⟩,⟨qR,zai _,zai _⟩,trivial⟩ (fun m=>ab.eE ab.nil (((((cg.nil.fn Pm (LY _ _)).fn zX (xx _ _)).fn hFr (ri _ _)).fn DZ (Ah _ _)).fn Ov (M4 _ _)) m)
  (fun _=>by kernel_rfl) (fun m x=>by kernel_rfl)
noncomputable def pP (Fr:Nat->gt->bi->Int->Bool->Int->bv->dw->Option ci) (n:Nat) (p:gt) (c64_0:bi) (c64_1:Int) (c64_2:Bool) (c64_3:Int) (c64_4:bv) (c64_5:dw):Option ci:=
 Option.bind (pc (n+2) (p.1,p.2) c64_0 c64_1) fun y0=>
 match y0 with
 | .inl y1=>
 Option.bind (qA (n+6) (y1.1.2.1.1,y1.1.2.1.2) c64_0) fun y2=>
 bif (!y1.1.2.2.1) then
 none
 else
 Option.bind (bif (aR 0 (len y2.1.1)) then
 Option.bind (y2.1.1[0]?) fun x4=>
 some (x4==42)
 else
 none) fun b5=>
 bif b5 then
 none
 else
 Option.bind (bif (aR 0 (len y2.1.1)) then
 Option.bind (y2.1.1[0]?) fun x7=>
 bif (x7==34) then
 none
 else
 Option.bind (y2.1.1[0]?) fun x8=>
 some (x8==39)
 else
 none) fun b9=>
 bif b9 then
 none
 else
 Option.bind (bif (aR 0 (len y2.1.1)) then
 Option.bind (y2.1.1[0]?) fun x11=>
 bif (x11==91) then
 some true
 else
 Option.bind (y2.1.1[0]?) fun x12=>
 some (x12==123)
 else
 none) fun b13=>
 bif b13 then
 Option.bind (y2.1.1[0]?) fun x14=>
 bif (x14==123) then
 none
 else
 Option.bind (KU (n+3) 0 c64_3 c64_4) fun y15=>
 match y15 with
  | .inl _=>
  bif (room (((List.length c64_5)+(List.length (((3:Int),(([]:List UInt8),(y1.1.1.2.1,(y1.1.1.1,((0:Int),true))))):: [])))*73)) then
  bif (room (((List.length c64_4)+(List.length (3::([]:List Int))))*9)) then
  Option.bind (yk (n+1) (y1.1.2.1.1,(zal (y1.1.2.1.2+1))) c64_0 c64_1) fun y17=>
  match y17 with
   | .inl y18=>
   Option.bind (nZ Fr n 3 93 c64_0 c64_1 c64_2 c64_3 (c64_4++(3::([]:List Int))) (c64_5++((3,(([]:List UInt8),(y1.1.1.2.1,(y1.1.1.1,(0,true))))):: [])) 0 0 y18.1.1.1 y18.1.1.2) fun y70=>
   match y70 with
    | .inl y71=>
    bif (room (((List.length y71.2.1.2.2.2.2.2.1)+(List.length (((zal (y71.1.2.2.1+(1:Int))),(([]:List UInt8),(([]:List UInt8),(([]:List UInt8),((0:Int),false))))):: [])))*73)) then
    bif ((aQ 0 (zal ((len y71.2.1.2.2.2.2.1) - 1))) &&(aQ (zal ((len y71.2.1.2.2.2.2.1) - 1)) (len y71.2.1.2.2.2.2.1))) then
    some (.inl ((((y71.2.2.2.1.1,(zal (y71.2.2.2.1.2.1+1))),true),()),((y71.2.1.1,(y71.2.1.2.1,(y71.2.1.2.2.1,(y71.2.1.2.2.2.1,((List.take ((Int.toNat (zal ((len y71.2.1.2.2.2.2.1) - 1))) - 0) (List.drop 0 y71.2.1.2.2.2.2.1)),((y71.2.1.2.2.2.2.2.1++(((zal (y71.1.2.2.1+1)),(([]:List UInt8),(([]:List UInt8),(([]:List UInt8),(0,false))))):: [])),())))))),())))
    else none
    else none
    | .inr y72=>
    some (.inr y72.1.1)
   | .inr e73=>
   some (.inr e73)
  else none
  else none
  | .inr e74=>
  some (.inr e74)
 else
 bif (aR 0 (len y2.1.1)) then
 Option.bind (lO (n+5) c64_2 c64_4) fun y75=>
 Option.bind (BO (n+1) y2.1.1 (!y75.1.1)) fun y76=>
 bif y76.1 then
 Option.bind (De n (y1.1.2.1.1,y1.1.2.1.2) y2.1.1 (y1.1.1.1,(y1.1.1.2.1,(y1.1.1.2.2.1,y1.1.1.2.2.2))) c64_0 c64_1 c64_2 c64_3 c64_4 c64_5) fun y77=>
 match y77 with
  | .inl y78=>
  some (.inl ((((y78.1.1.1,y78.1.1.2),false),()),((y78.2.1.1,(y78.2.1.2.1,(y78.2.1.2.2.1,(y78.2.1.2.2.2.1,(y78.2.1.2.2.2.2.1,(y78.2.1.2.2.2.2.2.1,())))))),())))
  | .inr e79=>
  some (.inr e79)
 else
 none
 else
 none
 | .inr e80=>
 some (.inr e80)
noncomputable def N1 (Fr:Nat->gt->bi->Int->Bool->Int->bv->dw->Option ci):bm:=eo 7 (fun n x=>pP Fr n x.1.1 x.2.1.1 x.2.1.2.1 x.2.1.2.2.1 x.2.1.2.2.2.1 x.2.1.2.2.2.2.1 x.2.1.2.2.2.2.2.1)
theorem MN (Fr:Nat->gt->bi->Int->Bool->Int->bv->dw->Option ci) (hFr:∀ m,aN Tryz.prog hint aG (wR Fr) m) (n:Nat):aN Tryz.prog hint aG (N1 Fr) n:=
 aN.of (hk:=fun β=>(an.mk [Ar] [(zT Fr)]).uY [Av,lA,wm,FT,iF,nT] β) (sh:=aG) (Hy _ _) (fun m _=>ab.eE ((ab.nil.loop (L6 Fr hFr) tR).fn M0) ((((((cg.nil.fn wL (tf _ _)).fn jZ (ij _ _)).fn QI (NH _ _)).fn DZ (Ah _ _)).fn sK (qE _ _)).fn NS (HE _ _)) m) (fun x s=>by kernel_rfl)
noncomputable def gf:Nat->Nat->gt->bi->Int->Bool->Int->bv->dw->Option ci
 |0,_,_,_,_,_,_,_,_=>none
 |d+1,n,p,c64_0,c64_1,c64_2,c64_3,c64_4,c64_5=>bif Nat.ble 7 n then pP (gf d) (n - 7) p c64_0 c64_1 c64_2 c64_3 c64_4 c64_5 else none
noncomputable def oO (n:Nat) (p:gt) (c64_0:bi) (c64_1:Int) (c64_2:Bool) (c64_3:Int) (c64_4:bv) (c64_5:dw):Option ci:=gf n n p c64_0 c64_1 c64_2 c64_3 c64_4 c64_5
noncomputable def wY:bm:=eo 0 (fun n x=>oO n x.1.1 x.2.1.1 x.2.1.2.1 x.2.1.2.2.1 x.2.1.2.2.2.1 x.2.1.2.2.2.2.1 x.2.1.2.2.2.2.2.1)
theorem Fi (n:Nat):aN Tryz.prog hint aG wY n:=
 aN.diag (it:=eo 0 fun _ _=>none) (fun d n x=>gf d n x.1.1 x.2.1.1 x.2.1.2.1 x.2.1.2.2.1 x.2.1.2.2.2.1 x.2.1.2.2.2.2.1 x.2.1.2.2.2.2.2.1) (aN.Db (it:=eo 0 fun _ _=>none) (D:=7) (fun G n x=>pP (fun n p c64_0 c64_1 c64_2 c64_3 c64_4 c64_5=>G n ((p,()),((c64_0,(c64_1,(c64_2,(c64_3,(c64_4,(c64_5,())))))),()))) n x.1.1 x.2.1.1 x.2.1.2.1 x.2.1.2.2.1 x.2.1.2.2.2.1 x.2.1.2.2.2.2.1 x.2.1.2.2.2.2.2.1) _ (fun _ _=>rfl) (fun _ _ _=>rfl) (fun G h n=>MN (fun n p c64_0 c64_1 c64_2 c64_3 c64_4 c64_5=>G n ((p,()),((c64_0,(c64_1,(c64_2,(c64_3,(c64_4,(c64_5,())))))),()))) h n)) n
set_option maxRecDepth 100000
noncomputable def mu (D:Nat) (F:Nat->ak [(false,am),(false,am)]×aF [(64,.cells 229 [.aC (.cons am (.aJ am))] true)]->Option (PR none (ak [(false,am),(false,.bool)]×aF []))):bm:=⟨233,[(TV.ptr 64 0)],[(false,am),(false,am)],[(false,am),(false,.bool)],65,[(64,.cells 229 [.aC (.cons am (.aJ am))] true)],65,[],65,true,none,D,F⟩
theorem RN (D:Nat) (F):(mu D F).T.ok Tryz.prog hint:=by
 intro p hp;simp only [mu,bm.T,List.mem_cons,List.not_mem_nil,or_false] at hp;rcases hp with rfl
 ·trivial
theorem Nc (D:Nat) (F):(mu D F).T2.ok Tryz.prog hint:=by
 intro p hp;simp only [mu,bm.T2,List.mem_cons,List.not_mem_nil,or_false] at hp
 
noncomputable def Uj (n:Nat) (line:Int) (column:Int) (c64_0:bi):Option ((Int×d6)×Unit):=
 Option.bind (bif (aQ 0 line) then
 some (aR line (len c64_0))
 else
 none) fun b1=>
 bif b1 then
 bif ((aQ 0 (zal (line+1))) &&(aQ (zal (line+1)) (len c64_0))) then
 bif ((aQ 0 line) &&(aQ line (((Int.toNat (zal (line+1))):Nat):Int))) then
 Option.bind (qA (n+1) (0,column) (List.take ((Int.toNat (zal (line+1))) - (Int.toNat line)) (List.drop (Int.toNat line) c64_0))) fun y2=>
 bif ((len y2.1.1)==0) then
 none
 else
 Option.bind (y2.1.1[0]?) fun x3=>
 Option.bind (blank (n+1) x3) fun y4=>
 bif y4.1 then
 none
 else
 Option.bind (oO n (0,column) (List.take ((Int.toNat (zal (line+1))) - (Int.toNat line)) (List.drop (Int.toNat line) c64_0)) (-1) true 0 ([]:List Int) []) fun y5=>
 match y5 with
 | .inl y6=>
 Option.bind (s5 n (y6.1.1.1.1,y6.1.1.1.2) y6.2.1.1) fun y7=>
 bif ((len y7.1.2.1)==0) then
 some ((0,false,()),())
 else
 none
 | .inr e8=>
 bif (e8 !=0) then
 some ((0,false,()),())
 else
 none
 else none
 else none
 else
 none
noncomputable def KD:bm:=mu 2 (fun n x=>Uj n x.1.1 x.1.2.1 x.2.1.1)
theorem Tw (n:Nat):aN Tryz.prog hint aG KD n:=
 aN.of (hk:=fun β=>(an.mk [fJ] []).uY [oL,wY,iF] β) (sh:=aG) (Nc _ _) (fun m _=>ab.eE (ab.nil.fn gh) (((cg.nil.fn jZ (ij _ _)).fn Fi (ri _ _)).fn wg (se _ _)) m) (fun x s=>by kernel_rfl)
noncomputable def iz (D:Nat) (F:Nat->ak [(false,am),(false,am),(false,am),(false,am)]×aF [(64,.cells 229 [.aC (.cons am (.aJ am))] true)]->Option (PR none (ak [(false,(.aJ ff)),(false,am),(false,am),(false,am)]×aF []))):bm:=⟨242,[(TV.ptr 64 0)],[(false,am),(false,am),(false,am),(false,am)],[(false,(.aJ ff)),(false,am),(false,am),(false,am)],65,[(64,.cells 229 [.aC (.cons am (.aJ am))] true)],65,[],65,true,none,D,F⟩
theorem Ih (D:Nat) (F):(iz D F).T.ok Tryz.prog hint:=by
 intro p hp;simp only [iz,bm.T,List.mem_cons,List.not_mem_nil,or_false] at hp;rcases hp with rfl
 ·trivial
theorem Fo (D:Nat) (F):(iz D F).T2.ok Tryz.prog hint:=by
 intro p hp;simp only [iz,bm.T2,List.mem_cons,List.not_mem_nil,or_false] at hp
 
noncomputable def CN (n:Nat) (line:Int) (column:Int) (m:Int) (deep:Int) (c64_0:bi):Option ((dw×(Int×g7))×Unit):=
 bif (aR line 0) then
 none
 else
 bif (aQ (len c64_0) line) then
 none
 else
 bif (aR column 0) then
 none
 else
 Option.bind (oO n (line,column) c64_0 m true deep ([]:List Int) []) fun y0=>
 match y0 with
 | .inl y1=>
 some ((y1.2.1.2.2.2.2.2.1,y1.1.1.1.1,y1.1.1.1.2,0,()),())
 | .inr e2=>
 bif (e2 !=0) then
 some (([],0,0,e2,()),())
 else
 none
noncomputable def zW:bm:=iz 3 (fun n x=>CN n x.1.1 x.1.2.1 x.1.2.2.1 x.1.2.2.2.1 x.2.1.1)
theorem MO (n:Nat):aN Tryz.prog hint aG zW n:=
 aN.of (hk:=fun β=>(an.mk [] []).uY [wY] β) (sh:=aG) (Fo _ _) (fun m _=>ab.eE ab.nil (cg.nil.fn Fi (ri _ _)) m) (fun x s=>by kernel_rfl)
noncomputable def gN (D:Nat) (F:Nat->ak [(false,am),(false,am)]×aF [(64,.cells 229 [.aC (.cons am (.aJ am))] true)]->Option (PR none (ak [(true,(.cons .str .str)),(false,am),(false,am)]×aF []))):bm:=⟨214,[(TV.ptr 64 0)],[(false,am),(false,am)],[(true,(.cons .str .str)),(false,am),(false,am)],65,[(64,.cells 229 [.aC (.cons am (.aJ am))] true)],65,[],65,true,none,D,F⟩
theorem Fg (D:Nat) (F):(gN D F).T.ok Tryz.prog hint:=by
 intro p hp;simp only [gN,bm.T,List.mem_cons,List.not_mem_nil,or_false] at hp;rcases hp with rfl
 ·trivial
theorem Cq (D:Nat) (F):(gN D F).T2.ok Tryz.prog hint:=by
 intro p hp;simp only [gN,bm.T2,List.mem_cons,List.not_mem_nil,or_false] at hp
 
noncomputable def vh (n:Nat) (line:Int) (column:Int) (c64_0:bi):Option ((gc×g7)×Unit):=
 Option.bind (bif (aQ 0 line) then
 some (aR line (len c64_0))
 else
 none) fun b1=>
 bif b1 then
 bif ((aQ 0 (zal (line+1))) &&(aQ (zal (line+1)) (len c64_0))) then
 bif ((aQ 0 line) &&(aQ line (((Int.toNat (zal (line+1))):Nat):Int))) then
 Option.bind (pc n (0,column) (List.take ((Int.toNat (zal (line+1))) - (Int.toNat line)) (List.drop (Int.toNat line) c64_0)) (-1)) fun y2=>
 match y2 with
 | .inl y3=>
 Option.bind (bif (!(y3.1.1.1==([]:List UInt8))) then
 none
 else
 some (!(y3.1.1.2.1==([]:List UInt8)))) fun b5=>
 bif (!b5) then
 some (((y3.1.1.1,y3.1.1.2.1),column,0,()),())
 else
 none
 | .inr e6=>
 none
 else none
 else none
 else
 none
noncomputable def vC:bm:=gN 6 (fun n x=>vh n x.1.1 x.1.2.1 x.2.1.1)
theorem Jp (n:Nat):aN Tryz.prog hint aG vC n:=
 aN.of (hk:=fun β=>(an.mk [] []).uY [nT] β) (sh:=aG) (Cq _ _) (fun m _=>ab.eE ab.nil (cg.nil.fn wL (tf _ _)) m) (fun x s=>by kernel_rfl)
set_option maxRecDepth 100000
noncomputable def jJ (D:Nat) (F:Nat->ak [(false,am),(false,am)]×aF [(64,.cells 201 [.aC (.cons am (.aJ am)),ap,ap,ap] true)]->Option (PR none (ak [(false,(.aJ am)),(false,am)]×aF []))):bm:=⟨207,[(TV.ptr 64 0)],[(false,am),(false,am)],[(false,(.aJ am)),(false,am)],65,[(64,.cells 201 [.aC (.cons am (.aJ am)),ap,ap,ap] true)],65,[],65,true,none,D,F⟩
theorem ry (D:Nat) (F):(jJ D F).T.ok Tryz.prog hint:=by
 intro p hp;simp only [jJ,bm.T,List.mem_cons,List.not_mem_nil,or_false] at hp;rcases hp with rfl
 ·trivial
theorem IT (D:Nat) (F):(jJ D F).T2.ok Tryz.prog hint:=by
 intro p hp;simp only [jJ,bm.T2,List.mem_cons,List.not_mem_nil,or_false] at hp
 
noncomputable def nA:Tm:=⟨[(0,.one (.fix (TV.ptr 64 0))),(1,ac),(2,ac),(9,.one (.aC am)),(10,ac)],[(64,.cells 201 [.aC (.cons am (.aJ am)),ap,ap,ap] true)],66,66,1003⟩
noncomputable def Ef:Tm:=⟨[(0,.one (.fix (TV.ptr 64 0))),(1,ac),(2,ac),(9,.one (.aC am)),(10,ac)],[(64,.cells 201 [.aC (.cons am (.aJ am)),ap,ap,ap] true)],66,66,1003⟩
noncomputable def ru:Nat->Int->Int->bv->Int->bi->Option ((Unit×(Int×(Int×(bv×dg))))×((bi×md)×Unit))
 |0,_,_,_,_,_=>none
 |n+1,t1,t2,t9,t10,c64_0=>
 bif (aR 0 (len t9)) then
 Option.bind (t9[0]?) fun x5=>
 Option.bind (blank (n+1) x5) fun y6=>
 bif y6.1 then
 bif (aQ 1 (len t9)) then
 ru n t1 (zal (t2+1)) (List.take ((List.length t9) - 1) (List.drop 1 t9)) t10 c64_0
 else none
 else
 some (((),(t1,(t2,(t9,(t10,()))))),((c64_0,((),((),((),())))),()))
 else
 some (((),(t1,(t2,(t9,(t10,()))))),((c64_0,((),((),((),())))),()))
noncomputable def AP:aM:=⟨207,5,none,Ef,[(.exit 0,nA)],1,fun n x=>ru n x.1.2.1 x.1.2.2.1 x.1.2.2.2.1 x.1.2.2.2.2.1 x.2.1.1,[65],[64]⟩
theorem q9:nA.ok Tryz.prog hint:=Tm.dh rfl
theorem sF:Ef.ok Tryz.prog hint:=Tm.dh rfl
theorem Nj:∀ n,ao Tryz.prog hint aG AP n:=
 ao.of (hk:=fun β=>(an.mk [fJ] []).hk β) (sh:=aG) (aL.of (by kernel_rfl)) sF ⟨⟨q9,zai _,zai _⟩,trivial⟩ (fun m=>ab.aK (ab.nil.fn gh) m)
  (fun _=>by kernel_rfl) (fun m x=>by kernel_rfl)
noncomputable def qa (n:Nat) (line:Int) (column:Int) (c64_0:bi):Option ((bv×dg)×Unit):=
 bif (aQ 0 line) then
 Option.bind (c64_0[(Int.toNat line)]?) fun x0=>
 bif ((aQ 0 (bif (aR (len x0.2) (zal ((bif (aR column x0.1) then x0.1 else column) - x0.1))) then (len x0.2) else (zal ((bif (aR column x0.1) then x0.1 else column) - x0.1)))) &&(aQ (bif (aR (len x0.2) (zal ((bif (aR column x0.1) then x0.1 else column) - x0.1))) then (len x0.2) else (zal ((bif (aR column x0.1) then x0.1 else column) - x0.1))) (len x0.2))) then
 Option.bind (ru n line (bif (aR column x0.1) then x0.1 else column) (List.take ((List.length x0.2) - (Int.toNat (bif (aR (len x0.2) (zal ((bif (aR column x0.1) then x0.1 else column) - x0.1))) then (len x0.2) else (zal ((bif (aR column x0.1) then x0.1 else column) - x0.1))))) (List.drop (Int.toNat (bif (aR (len x0.2) (zal ((bif (aR column x0.1) then x0.1 else column) - x0.1))) then (len x0.2) else (zal ((bif (aR column x0.1) then x0.1 else column) - x0.1)))) x0.2)) (bif (aR column x0.1) then x0.1 else column) c64_0) fun y7=>
 bif (aR 0 (len y7.1.2.2.2.1)) then
 Option.bind (y7.1.2.2.2.1[0]?) fun x8=>
 bif (x8==35) then
 none
 else
 some ((y7.1.2.2.2.1,y7.1.2.2.1,()),())
 else
 some ((y7.1.2.2.2.1,y7.1.2.2.1,()),())
 else none
 else none
noncomputable def ph:bm:=jJ 1 (fun n x=>qa n x.1.1 x.1.2.1 x.2.1.1)
theorem wN (n:Nat):aN Tryz.prog hint aG ph n:=
 aN.of (hk:=fun β=>(an.mk [] [AP]).hk β) (sh:=aG) (IT _ _) (fun m _=>ab.aK (ab.nil.loop Nj sF) m) (fun x s=>by kernel_rfl)
noncomputable def jz (D:Nat) (F:Nat->ak [(false,am),(false,am),(false,am)]×aF [(64,.cells 201 [.aC (.cons am (.aJ am)),ap,ap,ap] true)]->Option (PR none (ak [(false,.bool)]×aF []))):bm:=⟨208,[(TV.ptr 64 0)],[(false,am),(false,am),(false,am)],[(false,.bool)],65,[(64,.cells 201 [.aC (.cons am (.aJ am)),ap,ap,ap] true)],65,[],65,true,none,D,F⟩
theorem Bu (D:Nat) (F):(jz D F).T.ok Tryz.prog hint:=by
 intro p hp;simp only [jz,bm.T,List.mem_cons,List.not_mem_nil,or_false] at hp;rcases hp with rfl
 ·trivial
theorem HF (D:Nat) (F):(jz D F).T2.ok Tryz.prog hint:=by
 intro p hp;simp only [jz,bm.T2,List.mem_cons,List.not_mem_nil,or_false] at hp
 
noncomputable def Ff (n:Nat) (line:Int) (column:Int) (c:Int) (c64_0:bi):Option lw:=
 bif (aQ 0 line) then
 Option.bind (c64_0[(Int.toNat line)]?) fun x0=>
 bif (aQ 0 (zal (column - x0.1))) then
 bif (aR (zal (column - x0.1)) (len x0.2)) then
 bif (aQ 0 (zal (column - x0.1))) then
 Option.bind (x0.2[(Int.toNat (zal (column - x0.1)))]?) fun x1=>
 bif (x1==c) then
 bif ((zal ((zal (column - x0.1))+1))==(len x0.2)) then
 some ((true,()),())
 else
 bif (aQ 0 (zal ((zal (column - x0.1))+1))) then
 Option.bind (x0.2[(Int.toNat (zal ((zal (column - x0.1))+1)))]?) fun x2=>
 Option.bind (blank n x2) fun y3=>
 some ((y3.1,()),())
 else none
 else
 some ((false,()),())
 else none
 else
 none
 else
 none
 else none
noncomputable def xC:bm:=jz 1 (fun n x=>Ff n x.1.1 x.1.2.1 x.1.2.2.1 x.2.1.1)
theorem Hl (n:Nat):aN Tryz.prog hint aG xC n:=
 aN.of (hk:=fun β=>(an.mk [fJ] []).hk β) (sh:=aG) (HF _ _) (fun m _=>ab.aK (ab.nil.fn gh) m) (fun x s=>by kernel_rfl)
noncomputable def jL (D:Nat) (F:Nat->ak [(false,am)]×aF [(64,.cells 201 [.aC (.cons am (.aJ am)),ap,ap,ap] true)]->Option (PR (some 231) (ak [(false,am),(false,.bool)]×aF []))):bm:=⟨192,[(TV.ptr 64 0)],[(false,am)],[(false,am),(false,.bool)],65,[(64,.cells 201 [.aC (.cons am (.aJ am)),ap,ap,ap] true)],65,[],65,true,(some 231),D,F⟩
theorem sq (D:Nat) (F):(jL D F).T.ok Tryz.prog hint:=by
 intro p hp;simp only [jL,bm.T,List.mem_cons,List.not_mem_nil,or_false] at hp;rcases hp with rfl
 ·trivial
theorem HB (D:Nat) (F):(jL D F).T2.ok Tryz.prog hint:=by
 intro p hp;simp only [jL,bm.T2,List.mem_cons,List.not_mem_nil,or_false] at hp
 
noncomputable def nh:Tm:=⟨[(0,.one (.fix (TV.ptr 64 0))),(1,ac)],[(64,.cells 201 [.aC (.cons am (.aJ am)),ap,ap,ap] true)],65,65,1001⟩
noncomputable def EY:Tm:=⟨[(0,.one (.fix (TV.ptr 64 0))),(1,ac)],[(64,.cells 201 [.aC (.cons am (.aJ am)),ap,ap,ap] true)],65,65,1001⟩
noncomputable def IS:Nat->Int->bi->Option ((Unit×dg)×((bi×md)×Unit))
 |0,_,_=>none
 |_+1,t1,c64_0=>
 bif (aR t1 (len c64_0)) then
 none
 else
 some (((),(t1,())),((c64_0,((),((),((),())))),()))
noncomputable def Ba:aM:=⟨192,1,none,EY,[(.exit 0,nh)],0,fun n x=>IS n x.1.2.1 x.2.1.1,[],[64]⟩
theorem rn:nh.ok Tryz.prog hint:=Tm.dh rfl
theorem th:EY.ok Tryz.prog hint:=Tm.dh rfl
theorem MZ:∀ n,ao Tryz.prog hint aG Ba n:=
 ao.of (hk:=fun β=>(an.mk [] []).hk β) (sh:=aG) (aL.of (by kernel_rfl)) th ⟨⟨rn,zai _,zai _⟩,trivial⟩ (fun m=>ab.aK ab.nil m)
  (fun _=>by kernel_rfl) (fun m x=>by kernel_rfl)
noncomputable def Au (n:Nat) (line:Int) (c64_0:bi):Option (((Int×d6)×Unit)⊕Int):=
 Option.bind (IS (n+2) line c64_0) fun y0=>
 bif (y0.1.2.1==(len c64_0)) then
 some (.inl ((y0.1.2.1,false,()),()))
 else
 bif (aQ 0 y0.1.2.1) then
 Option.bind (c64_0[(Int.toNat y0.1.2.1)]?) fun x1=>
 Option.bind (oF n (x1.1,x1.2)) fun y2=>
 bif (y2.1 !=0) then
 some (.inl ((y0.1.2.1,false,()),()))
 else
 bif (aQ 0 y0.1.2.1) then
 Option.bind (c64_0[(Int.toNat y0.1.2.1)]?) fun x3=>
 Option.bind (x3.2[0]?) fun x4=>
 bif (x4==9) then
 some (.inr 5)
 else
 some (.inl ((y0.1.2.1,true,()),()))
 else none
 else none
noncomputable def oQ:bm:=jL 2 (fun n x=>Au n x.1.1 x.2.1.1)
theorem wM (n:Nat):aN Tryz.prog hint aG oQ n:=
 aN.of (hk:=fun β=>(an.mk [jP] [Ba]).hk β) (sh:=aG) (HB _ _) (fun m _=>ab.aK ((ab.nil.loop MZ th).fn mJ) m) (fun x s=>by kernel_rfl)
noncomputable def gM (D:Nat) (F:Nat->ak [(false,am),(false,am)]×aF [(64,.cells 201 [.aC (.cons am (.aJ am)),ap,ap,ap] true)]->Option (PR (some 231) (ak [(false,am)]×aF []))):bm:=⟨243,[(TV.ptr 64 0)],[(false,am),(false,am)],[(false,am)],65,[(64,.cells 201 [.aC (.cons am (.aJ am)),ap,ap,ap] true)],65,[],65,true,(some 231),D,F⟩
theorem Dz (D:Nat) (F):(gM D F).T.ok Tryz.prog hint:=by
 intro p hp;simp only [gM,bm.T,List.mem_cons,List.not_mem_nil,or_false] at hp;rcases hp with rfl
 ·trivial
theorem BG (D:Nat) (F):(gM D F).T2.ok Tryz.prog hint:=by
 intro p hp;simp only [gM,bm.T2,List.mem_cons,List.not_mem_nil,or_false] at hp
 
noncomputable def vd (n:Nat) (line:Int) (column:Int) (c64_0:bi):Option (mt⊕Int):=
 Option.bind (qa n line column c64_0) fun y0=>
 bif (!((len y0.1.1)==0)) then
 none
 else
 some (.inl (((zal (line+1)),()),()))
noncomputable def vR:bm:=gM 2 (fun n x=>vd n x.1.1 x.1.2.1 x.2.1.1)
theorem Il (n:Nat):aN Tryz.prog hint aG vR n:=
 aN.of (hk:=fun β=>(an.mk [] []).uY [ph] β) (sh:=aG) (BG _ _) (fun m _=>ab.eE ab.nil (cg.nil.fn wN (ry _ _)) m) (fun x s=>by kernel_rfl)
noncomputable def fK (D:Nat) (F:Nat->ak [(false,am),(false,am)]×aF [(64,.cells 201 [.aC (.cons am (.aJ am)),ap,ap,ap] true)]->Option (PR (some 231) (ak [(false,am),(false,.bool)]×aF []))):bm:=⟨231,[(TV.ptr 64 0)],[(false,am),(false,am)],[(false,am),(false,.bool)],65,[(64,.cells 201 [.aC (.cons am (.aJ am)),ap,ap,ap] true)],65,[],65,true,(some 231),D,F⟩
theorem CU (D:Nat) (F):(fK D F).T.ok Tryz.prog hint:=by
 intro p hp;simp only [fK,bm.T,List.mem_cons,List.not_mem_nil,or_false] at hp;rcases hp with rfl
 ·trivial
theorem zw (D:Nat) (F):(fK D F).T2.ok Tryz.prog hint:=by
 intro p hp;simp only [fK,bm.T2,List.mem_cons,List.not_mem_nil,or_false] at hp
 
noncomputable def Fw (n:Nat) (line:Int) (_column:Int) (c64_0:bi):Option (((Int×d6)×Unit)⊕Int):=
 Option.bind (Au n line c64_0) fun y0=>
 match y0 with
 | .inl y1=>
 bif (!y1.1.2.1) then
 some (.inl ((line,false,()),()))
 else
 none
 | .inr e2=>
 some (.inr e2)
noncomputable def s7:bm:=fK 3 (fun n x=>Fw n x.1.1 x.1.2.1 x.2.1.1)
theorem EO (n:Nat):aN Tryz.prog hint aG s7 n:=
 aN.of (hk:=fun β=>(an.mk [] []).uY [oQ] β) (sh:=aG) (zw _ _) (fun m _=>ab.eE ab.nil (cg.nil.fn wM (sq _ _)) m) (fun x s=>by kernel_rfl)
noncomputable def jS (D:Nat) (F:Nat->ak [(false,am),(false,am)]×aF [(64,.cells 201 [.aC (.cons am (.aJ am)),.fix (TV.ptr 65 0),ap,ap] true),(65,.cells 229 [.aC (.cons am (.aJ am))] true)]->Option (PR none (ak [(false,.bool)]×aF []))):bm:=⟨212,[(TV.ptr 64 0)],[(false,am),(false,am)],[(false,.bool)],66,[(64,.cells 201 [.aC (.cons am (.aJ am)),.fix (TV.ptr 65 0),ap,ap] true),(65,.cells 229 [.aC (.cons am (.aJ am))] true)],66,[],66,true,none,D,F⟩
theorem Nz (D:Nat) (F):(jS D F).T.ok Tryz.prog hint:=by
 intro p hp;simp only [jS,bm.T,List.mem_cons,List.not_mem_nil,or_false] at hp;rcases hp with rfl |rfl
 ·trivial
 ·trivial
theorem Ig (D:Nat) (F):(jS D F).T2.ok Tryz.prog hint:=by
 intro p hp;simp only [jS,bm.T2,List.mem_cons,List.not_mem_nil,or_false] at hp
 
noncomputable def Le (n:Nat) (line:Int) (column:Int) (c64_0:bi) (c65_0:bi):Option lw:=
 Option.bind (Ff (n+1) line column 63 c64_0) fun y0=>
 bif y0.1.1 then
 none
 else
 Option.bind (Uj n line column c65_0) fun y1=>
 some ((y1.1.2.1,()),())
noncomputable def Fs:bm:=jS 3 (fun n x=>Le n x.1.1 x.1.2.1 x.2.1.1 x.2.2.1.1)
theorem Rg (n:Nat):aN Tryz.prog hint aG Fs n:=
 aN.of (hk:=fun β=>(an.mk [] []).uY [KD,xC] β) (sh:=aG) (Ig _ _) (fun m _=>ab.eE ab.nil ((cg.nil.fn Hl (Bu _ _)).fn Tw (RN _ _)) m) (fun x s=>by kernel_rfl)
noncomputable def jU (D:Nat) (F:Nat->ak [(false,am),(false,am),(false,am),(true,(.cons .str .str))]×aF [(64,.cells 201 [.aC (.cons am (.aJ am)),.fix (TV.ptr 65 0),.all 66 3 am .any,.all 67 59 ff .any] true),(65,.cells 229 [.aC (.cons am (.aJ am))] true)]->Option (PR (some 231) (ak [(false,am)]×aF [(64,.cells 201 [.aC (.cons am (.aJ am)),.fix (TV.ptr 65 0),.all 66 3 am .any,.all 67 59 ff .any] true),(65,.cells 229 [.aC (.cons am (.aJ am))] true)]))):bm:=⟨217,[(TV.ptr 64 0)],[(false,am),(false,am),(false,am),(true,(.cons .str .str))],[(false,am)],66,[(64,.cells 201 [.aC (.cons am (.aJ am)),.fix (TV.ptr 65 0),.all 66 3 am .any,.all 67 59 ff .any] true),(65,.cells 229 [.aC (.cons am (.aJ am))] true)],68,[(64,.cells 201 [.aC (.cons am (.aJ am)),.fix (TV.ptr 65 0),.all 66 3 am .any,.all 67 59 ff .any] true),(65,.cells 229 [.aC (.cons am (.aJ am))] true)],68,false,(some 231),D,F⟩
theorem NY (D:Nat) (F):(jU D F).T.ok Tryz.prog hint:=by
 intro p hp;simp only [jU,bm.T,List.mem_cons,List.not_mem_nil,or_false] at hp;rcases hp with rfl |rfl
 ·trivial
 ·trivial
theorem IX (D:Nat) (F):(jU D F).T2.ok Tryz.prog hint:=by
 intro p hp;simp only [jU,bm.T2,List.mem_cons,List.not_mem_nil,or_false] at hp;rcases hp with rfl |rfl
 ·trivial
 ·trivial
noncomputable def Fz (n:Nat) (line:Int) (column:Int) (m:Int) (t:gc) (c64_0:bi) (c64_2:bv) (c64_3:dw) (c65_0:bi):Option ce:=
 Option.bind (qa (n+2) line column c64_0) fun y0=>
 Option.bind (Option.bind (y0.1.1[0]?) fun x2=>
 bif (x2==124) then
 none
 else
 Option.bind (y0.1.1[0]?) fun x3=>
 some (x3==62)) fun b4=>
 bif b4 then
 none
 else
 Option.bind (CN n line y0.1.2.1 m (len c64_2) c65_0) fun y5=>
 bif (y5.1.2.2.2.1 !=0) then
 some (.inr y5.1.2.2.2.1)
 else
 Option.bind (y5.1.1[0]?) fun x6=>
 bif (x6.1 !=8) then
 bif (!((t.1==([]:List UInt8)) &&((t.2==([]:List UInt8)) &&true))) then
 none
 else
 bif (room (((List.length c64_3)+(List.length y5.1.1))*73)) then
 Option.bind (vd (n+1) y5.1.2.1 y5.1.2.2.1 c64_0) fun y7=>
 match y7 with
 | .inl y8=>
 some (.inl ((y8.1.1,()),((c64_0,((),(c64_2,((c64_3++y5.1.1),())))),((c65_0,()),()))))
 | .inr e9=>
 some (.inr e9)
 else none
 else
 none
noncomputable def Gc:bm:=jU 4 (fun n x=>Fz n x.1.1 x.1.2.1 x.1.2.2.1 x.1.2.2.2.1 x.2.1.1 x.2.1.2.2.1 x.2.1.2.2.2.1 x.2.2.1.1)
theorem PM (n:Nat):aN Tryz.prog hint aG Gc n:=
 aN.of (hk:=fun β=>(an.mk [] []).uY [vR,zW,ph] β) (sh:=aG) (IX _ _) (fun m _=>ab.eE ab.nil (((cg.nil.fn wN (ry _ _)).fn MO (Ih _ _)).fn Il (Dz _ _)) m) (fun x s=>by kernel_rfl)
noncomputable def ep (D:Nat) (F:Nat->ak [(false,am),(false,am),(true,(.cons am (.cons .bool .bool))),(true,(.cons .str .str))]×aF [(64,.cells 201 [.aC (.cons am (.aJ am)),.fix (TV.ptr 65 0),.all 66 3 am .any,.all 67 59 ff .any] true),(65,.cells 229 [.aC (.cons am (.aJ am))] true)]->Option (PR (some 231) (ak [(false,am)]×aF [(64,.cells 201 [.aC (.cons am (.aJ am)),.fix (TV.ptr 65 0),.all 66 3 am .any,.all 67 59 ff .any] true),(65,.cells 229 [.aC (.cons am (.aJ am))] true)]))):bm:=⟨191,[(TV.ptr 64 0)],[(false,am),(false,am),(true,(.cons am (.cons .bool .bool))),(true,(.cons .str .str))],[(false,am)],66,[(64,.cells 201 [.aC (.cons am (.aJ am)),.fix (TV.ptr 65 0),.all 66 3 am .any,.all 67 59 ff .any] true),(65,.cells 229 [.aC (.cons am (.aJ am))] true)],68,[(64,.cells 201 [.aC (.cons am (.aJ am)),.fix (TV.ptr 65 0),.all 66 3 am .any,.all 67 59 ff .any] true),(65,.cells 229 [.aC (.cons am (.aJ am))] true)],68,false,(some 231),D,F⟩
theorem Aw (D:Nat) (F):(ep D F).T.ok Tryz.prog hint:=by
 intro p hp;simp only [ep,bm.T,List.mem_cons,List.not_mem_nil,or_false] at hp;rcases hp with rfl |rfl
 ·trivial
 ·trivial
theorem Jn (D:Nat) (F):(ep D F).T2.ok Tryz.prog hint:=by
 intro p hp;simp only [ep,bm.T2,List.mem_cons,List.not_mem_nil,or_false] at hp;rcases hp with rfl |rfl
 ·trivial
 ·trivial
noncomputable def qo (Fr:Nat->Int->Int->g5->gc->bi->bv->dw->bi->Option ce):bm:=ep 0 (fun n x=>Fr n x.1.1 x.1.2.1 x.1.2.2.1 x.1.2.2.2.1 x.2.1.1 x.2.1.2.2.1 x.2.1.2.2.2.1 x.2.2.1.1)
noncomputable def nE:Tm:=⟨[(0,.one (.fix (TV.ptr 64 0))),(1,ac)],[(64,.cells 201 [.aC (.cons am (.aJ am)),.fix (TV.ptr 65 0),.all 79 3 am .any,.all 80 59 ff .any] true),(65,.cells 229 [.aC (.cons am (.aJ am))] true)],79,81,2013⟩
noncomputable def mc:Tm:=⟨[(0,ac)],[],79,79,2013⟩
noncomputable def D6:Tm:=⟨[(0,.one (.fix (TV.ptr 64 0))),(1,ac),(2,ac),(3,.one (.bool))],[(64,.cells 201 [.aC (.cons am (.aJ am)),.fix (TV.ptr 65 0),.all 79 3 am .any,.all 80 59 ff .any] true),(65,.cells 229 [.aC (.cons am (.aJ am))] true)],79,81,2013⟩
noncomputable def Qo (Fr:Nat->Int->Int->g5->gc->bi->bv->dw->bi->Option ce):Nat->Int->Int->Bool->bi->bv->dw->bi->Option (((Unit×dg)×((bi×(Unit×(bv×(dw×Unit))))×((bi×Unit)×Unit)))⊕mt)
 |0,_,_,_,_,_,_,_=>none
 |n+1,t1,t2,t3,c64_0,c64_2,c64_3,c65_0=>
 Option.bind (Fr (n+4) t1 (zal (t2+1)) (t2,(true,false)) (([]:List UInt8),([]:List UInt8)) c64_0 c64_2 c64_3 c65_0) fun y14=>
 match y14 with
  | .inl y15=>
  Option.bind (Fw (n+1) y15.1.1 t2 y15.2.1.1) fun y16=>
  match y16 with
   | .inl y17=>
   bif (!y17.1.2.1) then
   some (.inl (((),(y15.1.1,())),((y15.2.1.1,((),(y15.2.1.2.2.1,(y15.2.1.2.2.2.1,())))),((y15.2.2.1.1,()),()))))
   else
   none
   | .inr e18=>
   some (.inr ((e18,()),()))
  | .inr e19=>
  some (.inr ((e19,()),()))
noncomputable def Bc (Fr:Nat->Int->Int->g5->gc->bi->bv->dw->bi->Option ce):aM:=⟨210,2,none,D6,[(.exit 0,nE),(.Ju 231,mc)],4,fun n x=>Qo Fr n x.1.2.1 x.1.2.2.1 x.1.2.2.2.1 x.2.1.1 x.2.1.2.2.1 x.2.1.2.2.2.1 x.2.2.1.1,[68,69,72,73,74,75,77],[]⟩
theorem sw:nE.ok Tryz.prog hint:=Tm.dh rfl
theorem pX:mc.ok Tryz.prog hint:=Tm.dh rfl
theorem sH:D6.ok Tryz.prog hint:=Tm.dh rfl
theorem Oa (Fr:Nat->Int->Int->g5->gc->bi->bv->dw->bi->Option ce) (hFr:∀ m,aN Tryz.prog hint aG (qo Fr) m):∀ n,ao Tryz.prog hint aG (Bc Fr) n:=
 ao.of (hk:=fun β=>(an.mk [] []).uY [s7,(qo Fr)] β) (sh:=aG) (aL.of (by kernel_rfl)) sH ⟨⟨sw,zai _,zai _⟩,⟨pX,zai _,zai _⟩,trivial⟩ (fun m=>ab.eE ab.nil ((cg.nil.fn hFr (Aw _ _)).fn EO (CU _ _)) m)
  (fun _=>by kernel_rfl) (fun m x=>by kernel_rfl)
noncomputable def mw:Tm:=⟨[(0,ac)],[],70,70,1003⟩
noncomputable def tG:Tm:=⟨[(10,ac)],[(64,.cells 201 [.aC (.cons am (.aJ am)),.fix (TV.ptr 65 0),.all 70 3 am .any,.all 71 59 ff .any] true),(65,.cells 229 [.aC (.cons am (.aJ am))] true),(68,.cells 253 [be,.bool,.bool] true),(69,.cells 255 [.str,.str] true)],70,72,1003⟩
noncomputable def DT:Tm:=⟨[(0,.one (.fix (TV.ptr 64 0))),(1,ac),(2,ac),(8,.one (.fix (TV.ptr 68 0))),(9,.one (.fix (TV.ptr 69 0)))],[(64,.cells 201 [.aC (.cons am (.aJ am)),.fix (TV.ptr 65 0),.all 70 3 am .any,.all 71 59 ff .any] true),(65,.cells 229 [.aC (.cons am (.aJ am))] true),(68,.cells 253 [be,.bool,.bool] true),(69,.cells 255 [.str,.str] true)],70,72,1003⟩
noncomputable def Cc (Fr:Nat->Int->Int->g5->gc->bi->bv->dw->bi->Option ce):Nat->Int->Int->bi->bv->dw->bi->Int->Bool->Bool->d7->d7->Option (mt⊕(dg×((bi×(Unit×(bv×(dw×Unit))))×((bi×Unit)×((Int×(Bool×d6))×((d7×jp)×Unit))))))
 |0,_,_,_,_,_,_,_,_,_,_,_=>none
 |n+1,t1,t2,c64_0,c64_2,c64_3,c65_0,c68_0,c68_1,c68_2,c69_0,c69_1=>
 Option.bind (qa (n+6) t1 t2 c64_0) fun y46=>
 bif (aR 0 (len y46.1.1)) then
 Option.bind (Ff (n+6) t1 y46.1.2.1 45 c64_0) fun y47=>
 bif y47.1.1 then
 bif (!c68_1) then
 none
 else
 bif (aQ 200 (len c64_2)) then
 some (.inl ((8,()),()))
 else
 bif (room (((List.length c64_3)+(List.length (((3:Int),(([]:List UInt8),(c69_1,(c69_0,((0:Int),false))))):: [])))*73)) then
 bif (room (((List.length c64_2)+(List.length (3::([]:List Int))))*9)) then
 Option.bind (Qo Fr (n+3) t1 y46.1.2.1 false c64_0 (c64_2++(3::([]:List Int))) (c64_3++((3,(([]:List UInt8),(c69_1,(c69_0,(0,false))))):: [])) c65_0) fun y48=>
 match y48 with
  | .inl y49=>
  bif (room (((List.length y49.2.1.2.2.2.1)+(List.length (((4:Int),(([]:List UInt8),(([]:List UInt8),(([]:List UInt8),((0:Int),false))))):: [])))*73)) then
  bif ((aQ 0 (zal ((len y49.2.1.2.2.1) - 1))) &&(aQ (zal ((len y49.2.1.2.2.1) - 1)) (len y49.2.1.2.2.1))) then
  some (.inr ((y49.1.2.1,()),((y49.2.1.1,((),((List.take ((Int.toNat (zal ((len y49.2.1.2.2.1) - 1))) - 0) (List.drop 0 y49.2.1.2.2.1)),((y49.2.1.2.2.2.1++((4,(([]:List UInt8),(([]:List UInt8),(([]:List UInt8),(0,false))))):: [])),())))),((y49.2.2.1.1,()),((c68_0,(c68_1,(c68_2,()))),((c69_0,(c69_1,())),()))))))
  else none
  else none
  | .inr y50=>
  some (.inl ((y50.1.1,()),()))
 else none
 else none
 else
 Option.bind (Le (n+4) t1 y46.1.2.1 c64_0 c65_0) fun y51=>
 bif y51.1.1 then
 none
 else
 Option.bind (vh (n+1) t1 y46.1.2.1 c65_0) fun y52=>
 bif (y52.1.2.2.1 !=0) then
 some (.inl ((y52.1.2.2.1,()),()))
 else
 bif (c69_0==([]:List UInt8)) then
 bif (c69_1==([]:List UInt8)) then
 bif (room ((List.length c69_0)+(List.length y52.1.1.1))) then
 bif (room ((List.length c69_1)+(List.length y52.1.1.2))) then
 Option.bind (qa (n+6) t1 y52.1.2.1 c64_0) fun y53=>
 bif (aR 0 (len y53.1.1)) then
 Option.bind (Fz (n+3) t1 y52.1.2.1 c68_0 ((c69_0++y52.1.1.1),(c69_1++y52.1.1.2)) c64_0 c64_2 c64_3 c65_0) fun y54=>
 match y54 with
  | .inl y55=>
  some (.inr ((y55.1.1,()),((y55.2.1.1,((),(y55.2.1.2.2.1,(y55.2.1.2.2.2.1,())))),((y55.2.2.1.1,()),((c68_0,(c68_1,(c68_2,()))),(((c69_0++y52.1.1.1),((c69_1++y52.1.1.2),())),()))))))
  | .inr e56=>
  some (.inl ((e56,()),()))
 else
 none
 else none
 else none
 else
 none
 else
 none
 else
 Option.bind (Au (n+5) (zal (t1+1)) c64_0) fun y57=>
 match y57 with
  | .inl y58=>
  bif (!y58.1.2.1) then
  bif (room (((List.length c64_3)+(List.length (((7:Int),(([]:List UInt8),(c69_1,(c69_0,((1:Int),false))))):: [])))*73)) then
  some (.inr (((zal (t1+1)),()),((c64_0,((),(c64_2,((c64_3++((7,(([]:List UInt8),(c69_1,(c69_0,(1,false))))):: [])),())))),((c65_0,()),((c68_0,(c68_1,(c68_2,()))),((c69_0,(c69_1,())),()))))))
  else none
  else
  none
  | .inr e59=>
  some (.inl ((e59,()),()))
noncomputable def Bv (Fr:Nat->Int->Int->g5->gc->bi->bv->dw->bi->Option ce):aM:=⟨191,1,none,DT,[(.Ju 231,mw),(.ret,tG)],7,fun n x=>Cc Fr n x.1.2.1 x.1.2.2.1 x.2.1.1 x.2.1.2.2.1 x.2.1.2.2.2.1 x.2.2.1.1 x.2.2.2.1.1 x.2.2.2.1.2.1 x.2.2.2.1.2.2.1 x.2.2.2.2.1.1 x.2.2.2.2.1.2.1,[],[68]⟩
theorem pS:mw.ok Tryz.prog hint:=Tm.dh rfl
theorem vS:tG.ok Tryz.prog hint:=Tm.dh rfl
theorem ta:DT.ok Tryz.prog hint:=Tm.dh rfl
theorem L8 (Fr:Nat->Int->Int->g5->gc->bi->bv->dw->bi->Option ce) (hFr:∀ m,aN Tryz.prog hint aG (qo Fr) m):∀ n,ao Tryz.prog hint aG (Bv Fr) n:=
 ao.of (hk:=fun β=>(an.mk [] [(Bc Fr)]).uY [oQ,Gc,vC,Fs,xC,ph] β) (sh:=aG) (aL.of (by kernel_rfl)) ta ⟨⟨pS,zai _,zai _⟩,⟨vS,zai _,zai _⟩,trivial⟩ (fun m=>ab.eE (ab.nil.loop (Oa Fr hFr) sH) ((((((cg.nil.fn wN (ry _ _)).fn Hl (Bu _ _)).fn Rg (Nz _ _)).fn Jp (Fg _ _)).fn PM (NY _ _)).fn wM (sq _ _)) m)
  (fun _=>by kernel_rfl) (fun m x=>by kernel_rfl)
noncomputable def uZ (Fr:Nat->Int->Int->g5->gc->bi->bv->dw->bi->Option ce) (n:Nat) (line:Int) (column:Int) (w:g5) (t:gc) (c64_0:bi) (c64_2:bv) (c64_3:dw) (c65_0:bi):Option ce:=
 Option.bind (Cc Fr n line column c64_0 c64_2 c64_3 c65_0 w.1 w.2.1 w.2.2 t.1 t.2) fun y60=>
 match y60 with
 | .inl y61=>
 some (.inr y61.1.1)
 | .inr y62=>
 some (.inl ((y62.1.1,()),((y62.2.1.1,((),(y62.2.1.2.2.1,(y62.2.1.2.2.2.1,())))),((y62.2.2.1.1,()),()))))
noncomputable def Mi (Fr:Nat->Int->Int->g5->gc->bi->bv->dw->bi->Option ce):bm:=ep 7 (fun n x=>uZ Fr n x.1.1 x.1.2.1 x.1.2.2.1 x.1.2.2.2.1 x.2.1.1 x.2.1.2.2.1 x.2.1.2.2.2.1 x.2.2.1.1)
theorem NG (Fr:Nat->Int->Int->g5->gc->bi->bv->dw->bi->Option ce) (hFr:∀ m,aN Tryz.prog hint aG (qo Fr) m) (n:Nat):aN Tryz.prog hint aG (Mi Fr) n:=
 aN.of (hk:=fun β=>(an.mk [] [(Bv Fr)]).hk β) (sh:=aG) (Jn _ _) (fun m _=>ab.aK (ab.nil.loop (L8 Fr hFr) ta) m) (fun x s=>by kernel_rfl)
noncomputable def km:Nat->Nat->Int->Int->g5->gc->bi->bv->dw->bi->Option ce
 |0,_,_,_,_,_,_,_,_,_=>none
 |d+1,n,line,column,w,t,c64_0,c64_2,c64_3,c65_0=>bif Nat.ble 7 n then uZ (km d) (n - 7) line column w t c64_0 c64_2 c64_3 c65_0 else none
noncomputable def K9 (n:Nat) (line:Int) (column:Int) (w:g5) (t:gc) (c64_0:bi) (c64_2:bv) (c64_3:dw) (c65_0:bi):Option ce:=km n n line column w t c64_0 c64_2 c64_3 c65_0
noncomputable def Ek:bm:=ep 0 (fun n x=>K9 n x.1.1 x.1.2.1 x.1.2.2.1 x.1.2.2.2.1 x.2.1.1 x.2.1.2.2.1 x.2.1.2.2.2.1 x.2.2.1.1)
theorem Rx (n:Nat):aN Tryz.prog hint aG Ek n:=
 aN.diag (it:=ep 0 fun _ _=>none) (fun d n x=>km d n x.1.1 x.1.2.1 x.1.2.2.1 x.1.2.2.2.1 x.2.1.1 x.2.1.2.2.1 x.2.1.2.2.2.1 x.2.2.1.1) (aN.Db (it:=ep 0 fun _ _=>none) (D:=7) (fun G n x=>uZ (fun n line column w t c64_0 c64_2 c64_3 c65_0=>G n ((line,(column,(w,(t,())))),((c64_0,((),(c64_2,(c64_3,())))),((c65_0,()),())))) n x.1.1 x.1.2.1 x.1.2.2.1 x.1.2.2.2.1 x.2.1.1 x.2.1.2.2.1 x.2.1.2.2.2.1 x.2.2.1.1) _ (fun _ _=>rfl) (fun _ _ _=>rfl) (fun G h n=>NG (fun n line column w t c64_0 c64_2 c64_3 c65_0=>G n ((line,(column,(w,(t,())))),((c64_0,((),(c64_2,(c64_3,())))),((c65_0,()),())))) h n)) n
set_option maxRecDepth 100000
noncomputable def ng:Tm:=⟨[],[],64,64,1000⟩
noncomputable def Fb:Tm:=⟨[(0,.one (.aC (.cons am (.aJ am)))),(1,.one (.fix (TV.fn 163 [] []))),(7,ac),(8,ac)],[],64,64,1000⟩
noncomputable def wh:Nat->bi->Int->Int->Option d9
 |0,_,_,_=>none
 |n+1,t0,t7,t8=>
 bif (aR t8 t7) then
 bif (aQ 0 t8) then
 Option.bind (t0[(Int.toNat t8)]?) fun x2=>
 bif (aR x2.1 0) then
 none
 else
 wh n t0 t7 (zal (t8+1))
 else none
 else
 some ((),())
noncomputable def zV:aM:=⟨190,2,none,Fb,[(.exit 0,ng)],1,fun n x=>wh n x.1.1 x.1.2.2.1 x.1.2.2.2.1,[],[]⟩
theorem su:ng.ok Tryz.prog hint:=Tm.dh rfl
theorem tM:Fb.ok Tryz.prog hint:=Tm.dh rfl
theorem No:∀ n,ao Tryz.prog hint aG zV n:=
 ao.of (hk:=fun β=>(an.mk [] []).hk β) (sh:=aG) (aL.of (by kernel_rfl)) tM ⟨⟨su,zai _,zai _⟩,trivial⟩ (fun m=>ab.aK ab.nil m)
  (fun _=>by kernel_rfl) (fun m x=>by kernel_rfl)
noncomputable def pk (n:Nat) (l:List i6):Option (bi×Unit):=
 Option.bind (wh n l (len l) 0) fun _=>
 some (l,())
noncomputable def vW:bw:=⟨134,[(false,(.aJ (.cons am (.aJ am))))],[(false,(.aJ (.cons am (.aJ am))))],3,fun n x=>pk n x.1⟩
theorem Jt (n:Nat):aI Tryz.prog hint aG vW n:=
 aI.of (hk:=fun β=>(an.mk [] [zV]).hk β) (sh:=aG) (fun m _=>ab.aK (ab.nil.loop No tM) m) (fun x=>by kernel_rfl)
noncomputable def Li (n:Nat) (l:List i6) (line:Int) (column:Int):Option (dw×g7):=
 Option.bind (pk (n+1) l) fun y0=>
 bif (aR line 0) then
 none
 else
 bif (aQ (len y0.1) line) then
 none
 else
 bif (aR column 0) then
 none
 else
 bif (aQ 0 line) then
 Option.bind (y0.1[(Int.toNat line)]?) fun x1=>
 bif (aQ 0 line) then
 Option.bind (y0.1[(Int.toNat line)]?) fun x2=>
 bif (aR (len x2.2) (zal (column - x1.1))) then
 none
 else
 Option.bind (pk n y0.1) fun y3=>
 Option.bind (K9 (n+2) line column ((-1),((column==0),false)) (([]:List UInt8),([]:List UInt8)) y0.1 ([]:List Int) [] y3.1) fun y4=>
 match y4 with
 | .inl y5=>
 Option.bind (Au n y5.1.1 y5.2.1.1) fun y6=>
 match y6 with
  | .inl y7=>
  bif (!y7.1.2.1) then
  some (y5.2.1.2.2.2.1,y7.1.1,0,())
  else
  none
  | .inr e8=>
  bif (e8 !=0) then
  some ([],0,e8,())
  else
  none
 | .inr e9=>
 bif (e9 !=0) then
 some ([],0,e9,())
 else
 none
 else none
 else none
noncomputable def FH:bw:=⟨112,[(false,(.aJ (.cons am (.aJ am)))),(false,am),(false,am)],[(false,(.aJ ff)),(false,am),(false,am)],5,fun n x=>Li n x.1 x.2.1 x.2.2.1⟩
theorem OG (n:Nat):aI Tryz.prog hint aG FH n:=
 aI.of (hk:=fun β=>(an.mk [vW] []).uY [oQ,Ek] β) (sh:=aG) (fun m _=>ab.eE (ab.nil.fn Jt) ((cg.nil.fn Rx (Aw _ _)).fn wM (sq _ _)) m) (fun x=>by kernel_rfl)
noncomputable def jG (D:Nat) (F:Nat->ak []×aF [(64,.cells 78 [.aC (.cons am (.aJ am)),be,.all 65 59 ff .any] true)]->Option (PR none (ak [(false,.bool),(false,.bool)]×aF [(64,.cells 78 [.aC (.cons am (.aJ am)),be,.all 65 59 ff .any] true)]))):bm:=⟨54,[(TV.ptr 64 0)],[],[(false,.bool),(false,.bool)],65,[(64,.cells 78 [.aC (.cons am (.aJ am)),be,.all 65 59 ff .any] true)],66,[(64,.cells 78 [.aC (.cons am (.aJ am)),be,.all 65 59 ff .any] true)],66,false,none,D,F⟩
theorem L5 (D:Nat) (F):(jG D F).T.ok Tryz.prog hint:=by
 intro p hp;simp only [jG,bm.T,List.mem_cons,List.not_mem_nil,or_false] at hp;rcases hp with rfl
 ·trivial
theorem IZ (D:Nat) (F):(jG D F).T2.ok Tryz.prog hint:=by
 intro p hp;simp only [jG,bm.T2,List.mem_cons,List.not_mem_nil,or_false] at hp;rcases hp with rfl
 ·trivial
noncomputable def qO:Tm:=⟨[],[(64,.cells 78 [.aC (.cons am (.aJ am)),be,.all 66 59 ff .any] true)],66,67,1001⟩
noncomputable def K5:Tm:=⟨[(0,.one (.fix (TV.ptr 64 0)))],[(64,.cells 78 [.aC (.cons am (.aJ am)),be,.all 66 59 ff .any] true)],66,67,1001⟩
noncomputable def KG:Nat->bi->Int->dw->Option (Unit×(g9×Unit))
 |0,_,_,_=>none
 |n+1,c64_0,c64_1,c64_2=>
 bif (!(c64_1==(len c64_0))) then
 bif (aQ 0 c64_1) then
 Option.bind (c64_0[(Int.toNat c64_1)]?) fun x4=>
 Option.bind (bare (n+1) (x4.1,x4.2)) fun y5=>
 bif y5.1 then
 none
 else
 some ((),((c64_0,(c64_1,(c64_2,()))),()))
 else none
 else
 some ((),((c64_0,(c64_1,(c64_2,()))),()))
noncomputable def Fu:aM:=⟨82,0,none,K5,[(.exit 0,qO)],3,fun n x=>KG n x.2.1.1 x.2.1.2.1 x.2.1.2.2.1,[],[]⟩
theorem tW:qO.ok Tryz.prog hint:=Tm.dh rfl
theorem xp:K5.ok Tryz.prog hint:=Tm.dh rfl
theorem Qd:∀ n,ao Tryz.prog hint aG Fu n:=
 ao.of (hk:=fun β=>(an.mk [La] []).hk β) (sh:=aG) (aL.of (by kernel_rfl)) xp ⟨⟨tW,zai _,zai _⟩,trivial⟩ (fun m=>ab.aK (ab.nil.fn SQ) m)
  (fun _=>by kernel_rfl) (fun m x=>by kernel_rfl)
noncomputable def qg:Tm:=⟨[(4,.one (.bool))],[(64,.cells 78 [.aC (.cons am (.aJ am)),be,.all 67 59 ff .any] true)],67,68,2002⟩
noncomputable def LP:Tm:=⟨[(0,.one (.fix (TV.ptr 64 0))),(4,.one (.bool))],[(64,.cells 78 [.aC (.cons am (.aJ am)),be,.all 67 59 ff .any] true)],67,68,2002⟩
noncomputable def AT:Nat->Bool->bi->Int->dw->Option (d6×(g9×Unit))
 |0,_,_,_,_=>none
 |n+1,t4,c64_0,c64_1,c64_2=>
 bif (!(c64_1==(len c64_0))) then
 bif (aQ 0 c64_1) then
 Option.bind (c64_0[(Int.toNat c64_1)]?) fun x11=>
 Option.bind (oF (n+1) (x11.1,x11.2)) fun y12=>
 bif (y12.1==2) then
 none
 else
 some ((t4,()),((c64_0,(c64_1,(c64_2,()))),()))
 else none
 else
 some ((t4,()),((c64_0,(c64_1,(c64_2,()))),()))
noncomputable def Fl:aM:=⟨54,3,none,LP,[(.exit 0,qg)],2,fun n x=>AT n x.1.2.1 x.2.1.1 x.2.1.2.1 x.2.1.2.2.1,[],[]⟩
theorem uI:qg.ok Tryz.prog hint:=Tm.dh rfl
theorem wU:LP.ok Tryz.prog hint:=Tm.dh rfl
theorem QT:∀ n,ao Tryz.prog hint aG Fl n:=
 ao.of (hk:=fun β=>(an.mk [jP] []).hk β) (sh:=aG) (aL.of (by kernel_rfl)) wU ⟨⟨uI,zai _,zai _⟩,trivial⟩ (fun m=>ab.aK (ab.nil.fn mJ) m)
  (fun _=>by kernel_rfl) (fun m x=>by kernel_rfl)
noncomputable def AG (n:Nat) (c64_0:bi) (c64_1:Int) (c64_2:dw):Option ((Bool×d6)×(g9×Unit)):=
 Option.bind (KG n c64_0 c64_1 c64_2) fun y6=>
 Option.bind (AT (n+2) false y6.2.1.1 y6.2.1.2.1 y6.2.1.2.2.1) fun y13=>
 some ((y13.1.1,true,()),((y13.2.1.1,(y13.2.1.2.1,(y13.2.1.2.2.1,()))),()))
noncomputable def Eh:bm:=jG 4 (fun n x=>AG n x.2.1.1 x.2.1.2.1 x.2.1.2.2.1)
theorem OL (n:Nat):aN Tryz.prog hint aG Eh n:=
 aN.of (hk:=fun β=>(an.mk [] [Fl,Fu]).hk β) (sh:=aG) (IZ _ _) (fun m _=>ab.aK ((ab.nil.loop Qd xp).loop QT wU) m) (fun x s=>by kernel_rfl)
noncomputable def j0 (D:Nat) (F:Nat->ak []×aF [(64,.cells 78 [.aC (.cons am (.aJ am)),be,.all 66 59 ff .any] true),(65,.cells 150 [ap] true)]->Option (PR none (ak [(false,am)]×aF [(64,.cells 78 [.aC (.cons am (.aJ am)),be,.all 66 59 ff .any] true),(65,.cells 150 [ap] true)]))):bm:=⟨85,[(TV.ptr 64 0),(TV.ptr 65 0)],[],[(false,am)],66,[(64,.cells 78 [.aC (.cons am (.aJ am)),be,.all 66 59 ff .any] true),(65,.cells 150 [ap] true)],67,[(64,.cells 78 [.aC (.cons am (.aJ am)),be,.all 66 59 ff .any] true),(65,.cells 150 [ap] true)],67,false,none,D,F⟩
theorem L7 (D:Nat) (F):(j0 D F).T.ok Tryz.prog hint:=by
 intro p hp;simp only [j0,bm.T,List.mem_cons,List.not_mem_nil,or_false] at hp;rcases hp with rfl |rfl
 ·trivial
 ·trivial
theorem Ik (D:Nat) (F):(j0 D F).T2.ok Tryz.prog hint:=by
 intro p hp;simp only [j0,bm.T2,List.mem_cons,List.not_mem_nil,or_false] at hp;rcases hp with rfl |rfl
 ·trivial
 ·trivial
noncomputable def qi:Tm:=⟨[(0,.one (.fix (TV.ptr 64 0))),(6,.one (.bool))],[(64,.cells 78 [.aC (.cons am (.aJ am)),be,.all 68 59 ff .any] true),(65,.cells 150 [ap] true),(67,.cells 3 [be] true)],68,69,1003⟩
noncomputable def Kt:Tm:=⟨[(0,.one (.fix (TV.ptr 64 0))),(1,.one (.fix (TV.ptr 65 0))),(5,.one (.fix (TV.ptr 67 0))),(6,.one (.bool))],[(64,.cells 78 [.aC (.cons am (.aJ am)),be,.all 68 59 ff .any] true),(65,.cells 150 [ap] true),(67,.cells 3 [be] true)],68,69,1003⟩
noncomputable def Oy:Nat->Bool->bi->Int->dw->Int->Option ((Unit×d6)×(g9×(d9×mt)))
 |0,_,_,_,_,_=>none
 |_+1,t6,c64_0,c64_1,c64_2,c67_0=>
 bif (!(c64_1==(len c64_0))) then
 bif (aQ 0 c64_1) then
 Option.bind (c64_0[(Int.toNat c64_1)]?) fun x4=>
 bif (x4.1==0) then
 bif (aR 0 (len x4.2)) then
 Option.bind (x4.2[0]?) fun x5=>
 bif (x5==37) then
 none
 else
 some (((),(t6,())),((c64_0,(c64_1,(c64_2,()))),(((),()),((c67_0,()),()))))
 else
 none
 else
 none
 else none
 else
 none
noncomputable def Hq:aM:=⟨85,2,none,Kt,[(.exit 0,qi)],1,fun n x=>Oy n x.1.2.2.2.1 x.2.1.1 x.2.1.2.1 x.2.1.2.2.1 x.2.2.2.1.1,[],[65,67]⟩
theorem uE:qi.ok Tryz.prog hint:=Tm.dh rfl
theorem xP:Kt.ok Tryz.prog hint:=Tm.dh rfl
theorem Pd:∀ n,ao Tryz.prog hint aG Hq n:=
 ao.of (hk:=fun β=>(an.mk [] []).hk β) (sh:=aG) (aL.of (by kernel_rfl)) xP ⟨⟨uE,zai _,zai _⟩,trivial⟩ (fun m=>ab.aK ab.nil m)
  (fun _=>by kernel_rfl) (fun m x=>by kernel_rfl)
noncomputable def Kh (n:Nat) (c64_0:bi) (c64_1:Int) (c64_2:dw):Option (dg×(g9×(d9×Unit))):=
 Option.bind (Oy (n+1) false c64_0 c64_1 c64_2 0) fun y6=>
 bif y6.1.2.1 then
 bif (y6.2.1.2.1==(len y6.2.1.1)) then
 some ((2,()),((y6.2.1.1,(y6.2.1.2.1,(y6.2.1.2.2.1,()))),(((),()),())))
 else
 bif (aQ 0 y6.2.1.2.1) then
 Option.bind (y6.2.1.1[(Int.toNat y6.2.1.2.1)]?) fun x7=>
 Option.bind (oF n (x7.1,x7.2)) fun y8=>
 bif (y8.1 !=1) then
 some ((2,()),((y6.2.1.1,(y6.2.1.2.1,(y6.2.1.2.2.1,()))),(((),()),())))
 else
 some ((0,()),((y6.2.1.1,(y6.2.1.2.1,(y6.2.1.2.2.1,()))),(((),()),())))
 else none
 else
 some ((0,()),((y6.2.1.1,(y6.2.1.2.1,(y6.2.1.2.2.1,()))),(((),()),())))
noncomputable def Fx:bm:=j0 2 (fun n x=>Kh n x.2.1.1 x.2.1.2.1 x.2.1.2.2.1)
theorem Pg (n:Nat):aN Tryz.prog hint aG Fx n:=
 aN.of (hk:=fun β=>(an.mk [jP] [Hq]).hk β) (sh:=aG) (Ik _ _) (fun m _=>ab.aK ((ab.nil.loop Pd xP).fn mJ) m) (fun x s=>by kernel_rfl)
noncomputable def lF (D:Nat) (F:Nat->ak []×aF [(64,.cells 78 [.aC (.cons am (.aJ am)),be,.all 66 59 ff .any] true),(65,.cells 150 [ap] true)]->Option (PR none (ak [(false,am)]×aF [(64,.cells 78 [.aC (.cons am (.aJ am)),be,.all 66 59 ff .any] true),(65,.cells 150 [ap] true)]))):bm:=⟨86,[(TV.ptr 64 0),(TV.ptr 65 0)],[],[(false,am)],66,[(64,.cells 78 [.aC (.cons am (.aJ am)),be,.all 66 59 ff .any] true),(65,.cells 150 [ap] true)],67,[(64,.cells 78 [.aC (.cons am (.aJ am)),be,.all 66 59 ff .any] true),(65,.cells 150 [ap] true)],67,false,none,D,F⟩
theorem RZ (D:Nat) (F):(lF D F).T.ok Tryz.prog hint:=by
 intro p hp;simp only [lF,bm.T,List.mem_cons,List.not_mem_nil,or_false] at hp;rcases hp with rfl |rfl
 ·trivial
 ·trivial
theorem Mt (D:Nat) (F):(lF D F).T2.ok Tryz.prog hint:=by
 intro p hp;simp only [lF,bm.T2,List.mem_cons,List.not_mem_nil,or_false] at hp;rcases hp with rfl |rfl
 ·trivial
 ·trivial
noncomputable def ni:Tm:=⟨[(6,.one (.fix (TV.all 68)))],[(65,.cells 150 [ap] true),(68,.arr 59 ff true false .no)],69,69,1003⟩
noncomputable def FL:Tm:=⟨[(1,.one (.fix (TV.ptr 65 0))),(6,.one (.fix (TV.all 68))),(13,.one (.fix (TV.all 68))),(14,ac),(15,ac)],[(65,.cells 150 [ap] true),(68,.arr 59 ff true false .no)],69,69,1003⟩
noncomputable def ll:Nat->Int->Int->dw->Option (d9×(d9×(dw×Unit)))
 |0,_,_,_=>none
 |n+1,t14,t15,a68=>
 bif (aR t15 t14) then
 bif ((aQ 0 t15) &&(aR t15 (len a68))) then
 Option.bind (a68[(Int.toNat t15)]?) fun x11=>
 Option.bind (bif (x11.2.2.1==([]:List UInt8)) then
 some true
 else
 none) fun b13=>
 bif b13 then
 bif ((aQ 0 t15) &&(aR t15 (len a68))) then
 Option.bind (a68[(Int.toNat t15)]?) fun x14=>
 ll n t14 (zal (t15+1)) (List.set a68 (Int.toNat t15) (x14.1,(x14.2.1,(x11.2.2.1,(x14.2.2.2.1,(x14.2.2.2.2.1,x14.2.2.2.2.2))))))
 else none
 else
 none
 else none
 else
 some (((),()),(((),()),(a68,())))
noncomputable def zC:aM:=⟨113,3,none,FL,[(.exit 0,ni)],1,fun n x=>ll n x.1.2.2.2.1 x.1.2.2.2.2.1 x.2.2.1,[64,66],[65]⟩
theorem rA:ni.ok Tryz.prog hint:=Tm.dh rfl
theorem ti:FL.ok Tryz.prog hint:=Tm.dh rfl
theorem M8:∀ n,ao Tryz.prog hint aG zC n:=
 ao.of (hk:=fun β=>(an.mk [] []).hk β) (sh:=aG) (aL.of (by kernel_rfl)) ti ⟨⟨rA,zai _,zai _⟩,trivial⟩ (fun m=>ab.aK ab.nil m)
  (fun _=>by kernel_rfl) (fun m x=>by kernel_rfl)
noncomputable def UI (n:Nat) (c64_0:bi) (c64_1:Int) (c64_2:dw):Option (dg×(g9×(d9×Unit))):=
 bif (aQ 0 c64_1) then
 Option.bind (c64_0[(Int.toNat c64_1)]?) fun x0=>
 Option.bind (oF (n+4) (x0.1,x0.2)) fun y1=>
 bif (y1.1==1) then
 none
 else
 Option.bind (Li n c64_0 c64_1 0) fun y2=>
 bif (y2.2.2.1 !=0) then
 some ((y2.2.2.1,()),((c64_0,(c64_1,(c64_2,()))),(((),()),())))
 else
 bif (!(List.isEmpty y2.1)) then
 bif (room ((0+(List.length y2.1))*73)) then
 Option.bind (ll (n+4) (len ([]++y2.1)) 0 ([]++y2.1)) fun y15=>
 bif (!(y2.2.1==(len c64_0))) then
 none
 else
 bif (room (((List.length c64_2)+(List.length (((1:Int),(([]:List UInt8),(([]:List UInt8),(([]:List UInt8),((0:Int),(y1.1==(1:Int))))))):: [])))*73)) then
 bif (room (((List.length (c64_2++(((1:Int),(([]:List UInt8),(([]:List UInt8),(([]:List UInt8),((0:Int),(y1.1==(1:Int))))))):: [])))+(List.length y15.2.2.1))*73)) then
 bif (room (((List.length ((c64_2++(((1:Int),(([]:List UInt8),(([]:List UInt8),(([]:List UInt8),((0:Int),(y1.1==(1:Int))))))):: []))++y15.2.2.1))+(List.length (((2:Int),(([]:List UInt8),(([]:List UInt8),(([]:List UInt8),((0:Int),false))))):: [])))*73)) then
 some ((0,()),((c64_0,(y2.2.1,((((c64_2++((1,(([]:List UInt8),(([]:List UInt8),(([]:List UInt8),(0,(y1.1==1)))))):: []))++y15.2.2.1)++((2,(([]:List UInt8),(([]:List UInt8),(([]:List UInt8),(0,false))))):: [])),()))),(((),()),())))
 else none
 else none
 else none
 else none
 else none
 else none
noncomputable def Lg:bm:=lF 6 (fun n x=>UI n x.2.1.1 x.2.1.2.1 x.2.1.2.2.1)
theorem Tk (n:Nat):aN Tryz.prog hint aG Lg n:=
 aN.of (hk:=fun β=>(an.mk [FH,jP] [zC]).hk β) (sh:=aG) (Mt _ _) (fun m _=>ab.aK (((ab.nil.fn mJ).fn OG).loop M8 ti) m) (fun x s=>by kernel_rfl)
noncomputable def oc:Tm:=⟨[],[(64,.cells 39 [.fix (TV.raw (Go.Value.slice (Option.none) 0 0))] true),(65,.cells 27 [be] true),(66,.cells 78 [.aC (.cons am (.aJ am)),be,.all 69 59 ff .any] true),(67,.cells 76 [.fix (TV.ptr 66 0)] true),(68,.loop 15 Go.LoopState.ready (Option.none) (jw Tryz.prog hint 15) [(2,.one (.fix (TV.ptr 64 0))),(3,.one (.fix (TV.ptr 65 0)))] (aH Tryz.prog 15 4).1 (aH Tryz.prog 15 4).2.1 (aH Tryz.prog 15 4).2.2)],69,70,1005⟩
noncomputable def kr:Tm:=⟨[],[(64,.cells 39 [.fix (TV.raw (Go.Value.slice (Option.none) 0 0))] true),(65,.cells 27 [be] true),(66,.cells 78 [.aC (.cons am (.aJ am)),be,.all 69 59 ff .any] true),(67,.cells 76 [.fix (TV.ptr 66 0)] true),(68,.loop 15 Go.LoopState.done (Option.some Go.Code.ret) (jw Tryz.prog hint 15) [(2,.one (.fix (TV.ptr 64 0))),(3,.one (.fix (TV.ptr 65 0)))] (aH Tryz.prog 15 4).1 (aH Tryz.prog 15 4).2.1 (aH Tryz.prog 15 4).2.2)],69,70,1005⟩
noncomputable def Ck:Tm:=⟨[(0,.one (.fix (TV.mX 68))),(1,.one (.fix (TV.ptr 67 0))),(3,.one (.bool))],[(64,.cells 39 [.fix (TV.raw (Go.Value.slice (Option.none) 0 0))] true),(65,.cells 27 [be] true),(66,.cells 78 [.aC (.cons am (.aJ am)),be,.all 69 59 ff .any] true),(67,.cells 76 [.fix (TV.ptr 66 0)] true),(68,.loop 15 Go.LoopState.ready (Option.none) (jw Tryz.prog hint 15) [(2,.one (.fix (TV.ptr 64 0))),(3,.one (.fix (TV.ptr 65 0)))] (aH Tryz.prog 15 4).1 (aH Tryz.prog 15 4).2.1 (aH Tryz.prog 15 4).2.2)],69,70,1005⟩
noncomputable def zR:Nat->Bool->Int->bi->Int->dw->Option ((Unit×(d9×(dg×(g9×(d9×(ip×Unit))))))⊕(Unit×(d9×(dg×(g9×(d9×(ip×Unit)))))))
 |0,_,_,_,_,_=>none
 |n+1,t3,c65_0,c66_0,c66_1,c66_2=>
 Option.bind (AG (n+4) c66_0 c66_1 c66_2) fun y12=>
 bif (!y12.1.2.1) then
 none
 else
 bif (y12.2.1.2.1==(len y12.2.1.1)) then
 some (.inl ((),(((),()),((c65_0,()),((y12.2.1.1,(y12.2.1.2.1,(y12.2.1.2.2.1,()))),(((),()),(((),((),())),())))))))
 else
 bif t3 then
 Option.bind (Kh (n+5) y12.2.1.1 y12.2.1.2.1 y12.2.1.2.2.1) fun y13=>
 bif (y13.1.1 !=0) then
 none
 else
 Option.bind (UI (n+1) y13.2.1.1 y13.2.1.2.1 y13.2.1.2.2.1) fun y14=>
 bif (y14.1.1 !=0) then
 some (.inr ((),(((),()),((y14.1.1,()),((y14.2.1.1,(y14.2.1.2.1,(y14.2.1.2.2.1,()))),(((),()),(((),((),())),())))))))
 else
 bif ((aQ 0 (zal ((len y14.2.1.2.2.1) - 1))) &&(aR (zal ((len y14.2.1.2.2.1) - 1)) (len y14.2.1.2.2.1))) then
 Option.bind (y14.2.1.2.2.1[(Int.toNat (zal ((len y14.2.1.2.2.1) - 1)))]?) fun x15=>
 zR n x15.2.2.2.2.2 c65_0 y14.2.1.1 y14.2.1.2.1 y14.2.1.2.2.1
 else none
 else
 none
noncomputable def Es:aM:=⟨53,1,none,Ck,[(.ret,oc),(.ret,kr)],8,fun n x=>zR n x.1.2.2.1 x.2.2.1.1 x.2.2.2.1.1 x.2.2.2.1.2.1 x.2.2.2.1.2.2.1,[],[67]⟩
theorem yU:oc.ok Tryz.prog hint:=by
 intro p hp;simp only [oc,List.mem_cons,List.not_mem_nil,or_false] at hp;rcases hp with rfl |rfl |rfl |rfl |rfl
 ·trivial
 ·trivial
 ·trivial
 ·trivial
 ·exact jB.of (by kernel_rfl) (by kernel_rfl)
theorem uh:kr.ok Tryz.prog hint:=by
 intro p hp;simp only [kr,List.mem_cons,List.not_mem_nil,or_false] at hp;rcases hp with rfl |rfl |rfl |rfl |rfl
 ·trivial
 ·trivial
 ·trivial
 ·trivial
 ·exact jB.of (by kernel_rfl) (by kernel_rfl)
theorem wT:Ck.ok Tryz.prog hint:=by
 intro p hp;simp only [Ck,List.mem_cons,List.not_mem_nil,or_false] at hp;rcases hp with rfl |rfl |rfl |rfl |rfl
 ·trivial
 ·trivial
 ·trivial
 ·trivial
 ·exact jB.of (by kernel_rfl) (by kernel_rfl)
theorem Ql:∀ n,ao Tryz.prog hint aG Es n:=
 ao.of (hk:=fun β=>(an.mk [] []).uY [Lg,Fx,Eh] β) (sh:=aG) (aL.of (by kernel_rfl)) wT ⟨⟨yU,zai _,zai _⟩,⟨uh,zai _,zai _⟩,trivial⟩ (fun m=>ab.eE ab.nil (((cg.nil.fn OL (L5 _ _)).fn Pg (L7 _ _)).fn Tk (RZ _ _)) m)
  (fun _=>by kernel_rfl) (fun m x=>by kernel_rfl)
noncomputable def Lu (n:Nat) (l:List i6):Option (dw×dg):=
 Option.bind (zR n true 0 l 0 []) fun y16=>
 match y16 with
 | .inl y17=>
 some (y17.2.2.2.1.2.2.1,0,())
 | .inr y18=>
 some ([],y18.2.2.1.1,())
noncomputable def Ei:bw:=⟨15,[(false,(.aJ (.cons am (.aJ am))))],[(false,(.aJ ff)),(false,am)],9,fun n x=>Lu n x.1⟩
theorem Qm (n:Nat):aI Tryz.prog hint aG Ei n:=
 aI.of (hk:=fun β=>(an.mk [] [Es]).hk β) (sh:=aG) (fun m _=>ab.aK (ab.nil.loop Ql wT) m) (fun x=>by kernel_rfl)
noncomputable def events (n:Nat) (b:List UInt8):Option (dw×dg):=
 Option.bind (points (n+6) b) fun y0=>
 bif (y0.2.1 !=0) then
 none
 else
 Option.bind (jE (n+6) y0.1) fun y1=>
 bif (y1.2.1 !=0) then
 none
 else
 Option.bind (Lu n y1.1) fun y2=>
 some (y2.1,y2.2.1,())
noncomputable def AX:bw:=⟨9,[(false,(.aJ .byte))],[(false,(.aJ ff)),(false,am)],10,fun n x=>events n x.1⟩
theorem N9 (n:Nat):aI Tryz.prog hint aG AX n:=
 aI.of (hk:=fun β=>(an.mk [Ei,pL,Bf] []).hk β) (sh:=aG) (fun m _=>ab.aK (((ab.nil.fn Nv).fn Cs).fn Qm) m) (fun x=>by kernel_rfl)
set_option maxRecDepth 100000
noncomputable def jq (_n:Nat) (x:(Int×d8)):Option d6:=
 bif (x.1==1) then
 some (((x.1==x.1) &&((x.2.1==([]:List UInt8)) &&((x.2.2.1==([]:List UInt8)) &&((x.2.2.2.1==([]:List UInt8)) &&((x.2.2.2.2.1==0) &&((x.2.2.2.2.2==x.2.2.2.2.2) &&true)))))),())
 else
 bif (x.1==2) then
 some (((x.1==x.1) &&((x.2.1==([]:List UInt8)) &&((x.2.2.1==([]:List UInt8)) &&((x.2.2.2.1==([]:List UInt8)) &&((x.2.2.2.2.1==0) &&((x.2.2.2.2.2==x.2.2.2.2.2) &&true)))))),())
 else
 bif (x.1==3) then
 some (((x.1==x.1) &&((x.2.1==([]:List UInt8)) &&((x.2.2.1==x.2.2.1) &&((x.2.2.2.1==x.2.2.2.1) &&((x.2.2.2.2.1==0) &&((x.2.2.2.2.2==x.2.2.2.2.2) &&true)))))),())
 else
 bif (x.1==5) then
 some (((x.1==x.1) &&((x.2.1==([]:List UInt8)) &&((x.2.2.1==x.2.2.1) &&((x.2.2.2.1==x.2.2.2.1) &&((x.2.2.2.2.1==0) &&((x.2.2.2.2.2==x.2.2.2.2.2) &&true)))))),())
 else
 bif (x.1==4) then
 some (((x.1==x.1) &&((x.2.1==([]:List UInt8)) &&((x.2.2.1==([]:List UInt8)) &&((x.2.2.2.1==([]:List UInt8)) &&((x.2.2.2.2.1==0) &&((x.2.2.2.2.2==false) &&true)))))),())
 else
 bif (x.1==6) then
 some (((x.1==x.1) &&((x.2.1==([]:List UInt8)) &&((x.2.2.1==([]:List UInt8)) &&((x.2.2.2.1==([]:List UInt8)) &&((x.2.2.2.2.1==0) &&((x.2.2.2.2.2==false) &&true)))))),())
 else
 bif (x.1==7) then
 Option.bind (bif ((x.1==x.1) &&((x.2.1==x.2.1) &&((x.2.2.1==x.2.2.1) &&((x.2.2.2.1==x.2.2.2.1) &&((x.2.2.2.2.1==x.2.2.2.2.1) &&((x.2.2.2.2.2==false) &&true)))))) then
 bif (aQ 1 x.2.2.2.2.1) then
 some (aQ x.2.2.2.2.1 5)
 else
 none
 else
 none) fun b1=>
 some (b1,())
 else
 none
noncomputable def Bo:bw:=⟨30,[(true,ff)],[(false,.bool)],0,fun n x=>jq n x.1⟩
theorem Mj (n:Nat):aI Tryz.prog hint aG Bo n:=
 aI.of (hk:=fun β=>(an.mk [] []).hk β) (sh:=aG) (fun m _=>ab.aK ab.nil m) (fun x=>by kernel_rfl)
noncomputable def tq:Tm:=⟨[(4,ac)],[],64,64,1000⟩
noncomputable def G8:Tm:=⟨[(0,.one (.aC ff)),(1,ac),(6,.one (.all 64 117 (.cons am am) .any)),(7,ac)],[],64,65,1000⟩
noncomputable def eJ:Nat->dw->Int->(List gt)->Int->Option mt
 |0,_,_,_,_=>none
 |n+1,t0,t1,t6,t7=>
 bif (aR t7 (len t0)) then
 bif (aQ 0 t7) then
 Option.bind (t0[(Int.toNat t7)]?) fun x48=>
 Option.bind (bif (x48.1==3) then
 some true
 else
 some (x48.1==5)) fun b50=>
 bif b50 then
 bif (room (((List.length t6)+(List.length ((x48.1,(0:Int)):: [])))*17)) then
 eJ n t0 t1 (t6++((x48.1,0):: [])) (zal (t7+1))
 else none
 else
 Option.bind (bif (x48.1==7) then
 some true
 else
 some (x48.1==8)) fun b52=>
 bif b52 then
 bif ((aQ 0 (zal ((len t6) - 1))) &&(aR (zal ((len t6) - 1)) (len t6))) then
 Option.bind (t6[(Int.toNat (zal ((len t6) - 1)))]?) fun x53=>
 bif ((aQ 0 (zal ((len t6) - 1))) &&(aR (zal ((len t6) - 1)) (len t6))) then
 Option.bind (t6[(Int.toNat (zal ((len t6) - 1)))]?) fun x54=>
 eJ n t0 t1 (List.set t6 (Int.toNat (zal ((len t6) - 1))) (x54.1,(zal (x53.2+1)))) (zal (t7+1))
 else none
 else none
 else
 bif ((aQ 0 (zal ((len t6) - 1))) &&(aR (zal ((len t6) - 1)) (len t6))) then
 Option.bind (t6[(Int.toNat (zal ((len t6) - 1)))]?) fun x55=>
 Option.bind (bif (x48.1==(zal (x55.1+1))) then
 bif (x55.1==3) then
 some true
 else
 none
 else
 none) fun b57=>
 bif (!b57) then
 none
 else
 bif ((aQ 0 (zal ((len t6) - 1))) &&(aQ (zal ((len t6) - 1)) (len t6))) then
 bif (((((Int.toNat (zal ((len t6) - 1))) - 0):Nat):Int)==0) then
 some (((zal (t7+1)),()),())
 else
 bif ((aQ 0 (zal (((((Int.toNat (zal ((len t6) - 1))) - 0):Nat):Int) - 1))) &&(aR (zal (((((Int.toNat (zal ((len t6) - 1))) - 0):Nat):Int) - 1)) ((((Int.toNat (zal ((len t6) - 1))) - 0):Nat):Int))) then
 Option.bind (t6[(0+(Int.toNat (zal (((((Int.toNat (zal ((len t6) - 1))) - 0):Nat):Int) - 1))))]?) fun x58=>
 bif ((aQ 0 (zal (((((Int.toNat (zal ((len t6) - 1))) - 0):Nat):Int) - 1))) &&(aR (zal (((((Int.toNat (zal ((len t6) - 1))) - 0):Nat):Int) - 1)) ((((Int.toNat (zal ((len t6) - 1))) - 0):Nat):Int))) then
 Option.bind (t6[(0+(Int.toNat (zal (((((Int.toNat (zal ((len t6) - 1))) - 0):Nat):Int) - 1))))]?) fun x59=>
 eJ n t0 t1 (List.take ((Int.toNat (zal ((len t6) - 1))) - 0) (List.drop 0 (List.set t6 (0+(Int.toNat (zal (((((Int.toNat (zal ((len t6) - 1))) - 0):Nat):Int) - 1)))) (x59.1,(zal (x58.2+1)))))) (zal (t7+1))
 else none
 else none
 else none
 else none
 else none
 else
 none
noncomputable def Be:aM:=⟨31,10,none,G8,[(.ret,tq)],1,fun n x=>eJ n x.1.1 x.1.2.1 x.1.2.2.1 x.1.2.2.2.1,[],[]⟩
theorem xD:tq.ok Tryz.prog hint:=Tm.dh rfl
theorem sV:G8.ok Tryz.prog hint:=Tm.dh rfl
theorem MJ:∀ n,ao Tryz.prog hint aG Be n:=
 ao.of (hk:=fun β=>(an.mk [] []).hk β) (sh:=aG) (aL.of (by kernel_rfl)) sV ⟨⟨xD,zai _,zai _⟩,trivial⟩ (fun m=>ab.aK ab.nil m)
  (fun _=>by kernel_rfl) (fun m x=>by kernel_rfl)
noncomputable def Ly (n:Nat) (l:List (Int×d8)) (i:Int):Option dg:=
 Option.bind (bif (aR i 0) then
 none
 else
 some (aQ (len l) i)) fun b1=>
 bif b1 then
 none
 else
 bif (aQ 0 i) then
 Option.bind (l[(Int.toNat i)]?) fun x2=>
 Option.bind (bif (x2.1==7) then
 none
 else
 some (x2.1==8)) fun b4=>
 bif b4 then
 none
 else
 Option.bind (bif (x2.1==3) then
 some true
 else
 some (x2.1==5)) fun b6=>
 bif (!b6) then
 none
 else
 Option.bind (eJ n l i [] i) fun y60=>
 some (y60.1.1,())
 else none
noncomputable def EK:bw:=⟨31,[(false,(.aJ ff)),(false,am)],[(false,am)],1,fun n x=>Ly n x.1 x.2.1⟩
theorem R4 (n:Nat):aI Tryz.prog hint aG EK n:=
 aI.of (hk:=fun β=>(an.mk [] [Be]).hk β) (sh:=aG) (fun m _=>ab.aK (ab.nil.loop MJ sV) m) (fun x=>by kernel_rfl)
noncomputable def qW:Tm:=⟨[(0,.one (.aC ff))],[],64,64,1000⟩
noncomputable def J7:Tm:=⟨[(0,.one (.aC ff)),(7,.one (.aC ff)),(8,ac),(9,ac)],[],64,64,1000⟩
noncomputable def A9:Nat->dw->dw->Int->Int->Option ((dw×Unit)×Unit)
 |0,_,_,_,_=>none
 |n+1,t0,t7,t8,t9=>
 bif (aR t9 t8) then
 bif (aQ 0 t9) then
 Option.bind (t7[(Int.toNat t9)]?) fun x4=>
 Option.bind (jq (n+1) (x4.1,(x4.2.1,(x4.2.2.1,(x4.2.2.2.1,(x4.2.2.2.2.1,x4.2.2.2.2.2)))))) fun y5=>
 bif (!y5.1) then
 none
 else
 A9 n t0 t7 t8 (zal (t9+1))
 else none
 else
 some ((t0,()),())
noncomputable def GU:aM:=⟨16,2,none,J7,[(.exit 0,qW)],1,fun n x=>A9 n x.1.1 x.1.2.1 x.1.2.2.1 x.1.2.2.2.1,[],[]⟩
theorem uw:qW.ok Tryz.prog hint:=Tm.dh rfl
theorem vK:J7.ok Tryz.prog hint:=Tm.dh rfl
theorem O4:∀ n,ao Tryz.prog hint aG GU n:=
 ao.of (hk:=fun β=>(an.mk [Bo] []).hk β) (sh:=aG) (aL.of (by kernel_rfl)) vK ⟨⟨uw,zai _,zai _⟩,trivial⟩ (fun m=>ab.aK (ab.nil.fn Mj) m)
  (fun _=>by kernel_rfl) (fun m x=>by kernel_rfl)
noncomputable def pD:Tm:=⟨[],[],64,64,2001⟩
noncomputable def KV:Tm:=⟨[(0,.one (.aC ff)),(5,ac)],[],64,64,2001⟩
noncomputable def Bp:Nat->dw->Int->Option d9
 |0,_,_=>none
 |n+1,t0,t5=>
 bif (aR t5 (len t0)) then
 bif (aQ 0 t5) then
 Option.bind (t0[(Int.toNat t5)]?) fun x17=>
 bif (x17.1 !=1) then
 none
 else
 Option.bind (Ly (n+1) t0 (zal (t5+1))) fun y18=>
 Option.bind (bif (y18.1==(zal (t5+1))) then
 none
 else
 bif (aQ (len t0) y18.1) then
 none
 else
 bif (aQ 0 y18.1) then
 Option.bind (t0[(Int.toNat y18.1)]?) fun x20=>
 some (x20.1 !=2)
 else none) fun b21=>
 bif b21 then
 none
 else
 Bp n t0 (zal (y18.1+1))
 else none
 else
 some ((),())
noncomputable def Hn:aM:=⟨16,8,none,KV,[(.exit 2,pD)],2,fun n x=>Bp n x.1.1 x.1.2.1,[],[]⟩
theorem ug:pD.ok Tryz.prog hint:=Tm.dh rfl
theorem xE:KV.ok Tryz.prog hint:=Tm.dh rfl
theorem Rf:∀ n,ao Tryz.prog hint aG Hn n:=
 ao.of (hk:=fun β=>(an.mk [EK] []).hk β) (sh:=aG) (aL.of (by kernel_rfl)) xE ⟨⟨ug,zai _,zai _⟩,trivial⟩ (fun m=>ab.aK (ab.nil.fn R4) m)
  (fun _=>by kernel_rfl) (fun m x=>by kernel_rfl)
noncomputable def u9 (n:Nat) (l:List (Int×d8)):Option d6:=
 Option.bind (A9 (n+1) l l (len l) 0) fun y6=>
 Option.bind (Bp n y6.1.1 0) fun _=>
 some (true,())
noncomputable def vu:bw:=⟨16,[(false,(.aJ ff))],[(false,.bool)],2,fun n x=>u9 n x.1⟩
theorem Jf (n:Nat):aI Tryz.prog hint aG vu n:=
 aI.of (hk:=fun β=>(an.mk [] [Hn,GU]).hk β) (sh:=aG) (fun m _=>ab.aK ((ab.nil.loop O4 vK).loop Rf xE) m) (fun x=>by kernel_rfl)
noncomputable def qt:Tm:=⟨[(6,.one (.fix (TV.ptr 64 0))),(8,.one (.fix (TV.ptr 65 0)))],[(64,.cells 26 [.fix (TV.raw (Go.Value.slice (Option.none) 0 0)),.fix (TV.raw (Go.Value.slice (Option.none) 0 0))] true),(65,.cells 57 [.zt 66 38 ka 3 3 am .any,.all 67 3 am .ex,.fix (TV.raw (Go.Value.map (Option.none))),.all 68 3 am .any,be,be] true)],66,69,1002⟩
noncomputable def vp:Tm:=⟨[(6,.one (.fix (TV.ptr 64 0))),(7,ac)],[(64,.cells 26 [.fix (TV.raw (Go.Value.slice (Option.none) 0 0)),.fix (TV.raw (Go.Value.slice (Option.none) 0 0))] true),(65,.cells 57 [.zt 66 38 ka 3 3 am .any,.all 67 3 am .ex,.fix (TV.raw (Go.Value.map (Option.none))),.all 68 3 am .any,be,be] true)],66,69,1002⟩
noncomputable def Lb:Tm:=⟨[(6,.one (.fix (TV.ptr 64 0))),(8,.one (.fix (TV.ptr 65 0))),(22,.one (.aC ff)),(23,ac),(24,ac)],[(64,.cells 26 [.fix (TV.raw (Go.Value.slice (Option.none) 0 0)),.fix (TV.raw (Go.Value.slice (Option.none) 0 0))] true),(65,.cells 57 [.zt 66 38 ka 3 3 am .any,.all 67 3 am .ex,.fix (TV.raw (Go.Value.map (Option.none))),.all 68 3 am .any,be,be] true)],66,69,1002⟩
noncomputable def cX:Nat->dw->Int->Int->qY->bv->bv->Int->Int->Option ((ip×(ip×((qY×(bv×(Unit×(bv×g7))))×Unit)))⊕((Unit×dg)×(ip×((qY×(bv×(Unit×(bv×g7))))×Unit))))
 |0,_,_,_,_,_,_,_,_=>none
 |n+1,t22,t23,t24,c65_0,c65_1,c65_3,c65_4,c65_5=>
 bif (aR t24 t23) then
 bif (aQ 0 t24) then
 Option.bind (t22[(Int.toNat t24)]?) fun x17=>
 bif (x17.1==1) then
 cX n t22 t23 (zal (t24+1)) c65_0 c65_1 c65_3 c65_4 c65_5
 else
 bif (x17.1==3) then
 bif (aQ c65_4 (len c65_3)) then
 some (.inr (((),(8,())),(((),((),())),((c65_0,(c65_1,((),(c65_3,(c65_4,(c65_5,())))))),()))))
 else
 bif (aQ c65_5 (len c65_0)) then
 some (.inr (((),(9,())),(((),((),())),((c65_0,(c65_1,((),(c65_3,(c65_4,(c65_5,())))))),()))))
 else
 bif (room (((List.length c65_0)+(List.length (((2:Int),(x17.2.2.1,(([]:List UInt8),(([]:List Int),false)))):: [])))*73)) then
 bif ((len c65_3)==0) then
 bif (room (((List.length c65_1)+(List.length ((len c65_0)::([]:List Int))))*9)) then
 bif (!(x17.2.2.2.1==([]:List UInt8))) then
 none
 else
 bif (room (((List.length c65_3)+(List.length ((len c65_0)::([]:List Int))))*9)) then
 cX n t22 t23 (zal (t24+1)) (c65_0++((2,(x17.2.2.1,(([]:List UInt8),(([]:List Int),false)))):: [])) (c65_1++((len c65_0)::([]:List Int))) (c65_3++((len c65_0)::([]:List Int))) c65_4 c65_5
 else none
 else none
 else
 bif ((aQ 0 (zal ((len c65_3) - 1))) &&(aR (zal ((len c65_3) - 1)) (len c65_3))) then
 Option.bind (c65_3[(Int.toNat (zal ((len c65_3) - 1)))]?) fun x18=>
 bif ((aQ 0 x18) &&(aR x18 (len (c65_0++((2,(x17.2.2.1,(([]:List UInt8),(([]:List Int),false)))):: []))))) then
 Option.bind ((c65_0++((2,(x17.2.2.1,(([]:List UInt8),(([]:List Int),false)))):: []))[(Int.toNat x18)]?) fun x19=>
 bif (room (((List.length x19.2.2.2.1)+(List.length ((len c65_0)::([]:List Int))))*9)) then
 bif (Nat.beq (Int.toNat x18) (Int.toNat x18)) then
 bif (!(x17.2.2.2.1==([]:List UInt8))) then
 none
 else
 bif (room (((List.length c65_3)+(List.length ((len c65_0)::([]:List Int))))*9)) then
 cX n t22 t23 (zal (t24+1)) (List.set (c65_0++((2,(x17.2.2.1,(([]:List UInt8),(([]:List Int),false)))):: [])) (Int.toNat x18) (x19.1,(x19.2.1,(x19.2.2.1,((x19.2.2.2.1++((len c65_0)::([]:List Int))),x19.2.2.2.2))))) c65_1 (c65_3++((len c65_0)::([]:List Int))) c65_4 c65_5
 else none
 else none
 else none
 else none
 else none
 else none
 else
 bif (x17.1==5) then
 none
 else
 bif (x17.1==4) then
 bif ((aQ 0 (zal ((len c65_3) - 1))) &&(aQ (zal ((len c65_3) - 1)) (len c65_3))) then
 cX n t22 t23 (zal (t24+1)) c65_0 c65_1 (List.take ((Int.toNat (zal ((len c65_3) - 1))) - 0) (List.drop 0 c65_3)) c65_4 c65_5
 else none
 else
 bif (x17.1==6) then
 bif ((aQ 0 (zal ((len c65_3) - 1))) &&(aQ (zal ((len c65_3) - 1)) (len c65_3))) then
 cX n t22 t23 (zal (t24+1)) c65_0 c65_1 (List.take ((Int.toNat (zal ((len c65_3) - 1))) - 0) (List.drop 0 c65_3)) c65_4 c65_5
 else none
 else
 bif (x17.1==7) then
 bif (aQ c65_5 (len c65_0)) then
 some (.inr (((),(9,())),(((),((),())),((c65_0,(c65_1,((),(c65_3,(c65_4,(c65_5,())))))),()))))
 else
 bif (room (((List.length c65_0)+(List.length (((1:Int),(x17.2.2.1,(x17.2.1,(([]:List Int),(x17.2.2.2.2.1==(1:Int)))))):: [])))*73)) then
 bif ((len c65_3)==0) then
 bif (room (((List.length c65_1)+(List.length ((len c65_0)::([]:List Int))))*9)) then
 bif (!(x17.2.2.2.1==([]:List UInt8))) then
 none
 else
 cX n t22 t23 (zal (t24+1)) (c65_0++((1,(x17.2.2.1,(x17.2.1,(([]:List Int),(x17.2.2.2.2.1==1))))):: [])) (c65_1++((len c65_0)::([]:List Int))) c65_3 c65_4 c65_5
 else none
 else
 bif ((aQ 0 (zal ((len c65_3) - 1))) &&(aR (zal ((len c65_3) - 1)) (len c65_3))) then
 Option.bind (c65_3[(Int.toNat (zal ((len c65_3) - 1)))]?) fun x20=>
 bif ((aQ 0 x20) &&(aR x20 (len (c65_0++((1,(x17.2.2.1,(x17.2.1,(([]:List Int),(x17.2.2.2.2.1==1))))):: []))))) then
 Option.bind ((c65_0++((1,(x17.2.2.1,(x17.2.1,(([]:List Int),(x17.2.2.2.2.1==1))))):: []))[(Int.toNat x20)]?) fun x21=>
 bif (room (((List.length x21.2.2.2.1)+(List.length ((len c65_0)::([]:List Int))))*9)) then
 bif (Nat.beq (Int.toNat x20) (Int.toNat x20)) then
 bif (!(x17.2.2.2.1==([]:List UInt8))) then
 none
 else
 cX n t22 t23 (zal (t24+1)) (List.set (c65_0++((1,(x17.2.2.1,(x17.2.1,(([]:List Int),(x17.2.2.2.2.1==1))))):: [])) (Int.toNat x20) (x21.1,(x21.2.1,(x21.2.2.1,((x21.2.2.2.1++((len c65_0)::([]:List Int))),x21.2.2.2.2))))) c65_1 c65_3 c65_4 c65_5
 else none
 else none
 else none
 else none
 else none
 else
 bif (x17.1==8) then
 none
 else
 cX n t22 t23 (zal (t24+1)) c65_0 c65_1 c65_3 c65_4 c65_5
 else none
 else
 some (.inl (((),((),())),(((),((),())),((c65_0,(c65_1,((),(c65_3,(c65_4,(c65_5,())))))),()))))
noncomputable def D4:aM:=⟨10,5,none,Lb,[(.exit 0,qt),(.ret,vp)],4,fun n x=>cX n x.1.2.2.1 x.1.2.2.2.1 x.1.2.2.2.2.1 x.2.2.1.1 x.2.2.1.2.1 x.2.2.1.2.2.2.1 x.2.2.1.2.2.2.2.1 x.2.2.1.2.2.2.2.2.1,[],[]⟩
theorem tX:qt.ok Tryz.prog hint:=Tm.dh rfl
theorem yH:vp.ok Tryz.prog hint:=Tm.dh rfl
theorem xk:Lb.ok Tryz.prog hint:=Tm.dh rfl
theorem QL:∀ n,ao Tryz.prog hint aG D4 n:=
 ao.of (hk:=fun β=>(an.mk [] []).hk β) (sh:=aG) (aL.of (by kernel_rfl)) xk ⟨⟨tX,zai _,zai _⟩,⟨yH,zai _,zai _⟩,trivial⟩ (fun m=>ab.aK ab.nil m)
  (fun _=>by kernel_rfl) (fun m x=>by kernel_rfl)
noncomputable def rW (n:Nat) (l:List (Int×d8)) (depth:Int) (nodes:Int):Option (dl×dg):=
 Option.bind (u9 (n+1) l) fun y0=>
 bif (!y0.1) then
 none
 else
 Option.bind (cX n l (len l) 0 [] ([]:List Int) ([]:List Int) (bif (aR 200 depth) then 200 else depth) (bif (aR 20000 nodes) then 20000 else nodes)) fun y22=>
 match y22 with
 | .inl y23=>
 some ((y23.2.2.1.1,y23.2.2.1.2.1),0,())
 | .inr y24=>
 some (([],([]:List Int)),y24.1.2.1,())
noncomputable def Bk:bw:=⟨10,[(false,(.aJ ff)),(false,am),(false,am)],[(true,(.cons (.aJ ka) (.aJ am))),(false,am)],4,fun n x=>rW n x.1 x.2.1 x.2.2.1⟩
theorem MP (n:Nat):aI Tryz.prog hint aG Bk n:=
 aI.of (hk:=fun β=>(an.mk [vu] [D4]).hk β) (sh:=aG) (fun m _=>ab.aK ((ab.nil.fn Jf).loop QL xk) m) (fun x=>by kernel_rfl)
set_option maxRecDepth 100000
noncomputable def load (n:Nat) (b:List UInt8) (l:(Int×gt)) (sch:Int):Option (dl×dg):=
 bif (aR (bif (aR 1048576 (bif (aR 0 l.1) then l.1 else 0)) then 1048576 else (bif (aR 0 l.1) then l.1 else 0)) (len b)) then
 some (([],([]:List Int)),3,())
 else
 Option.bind (events n b) fun y0=>
 bif (y0.2.1 !=0) then
 some (([],([]:List Int)),y0.2.1,())
 else
 Option.bind (rW (n+6) y0.1 l.2.1 l.2.2) fun y1=>
 bif (y1.2.1 !=0) then
 some (([],([]:List Int)),y1.2.1,())
 else
 Option.bind (resolved (n+2) (y1.1.1,y1.1.2) sch) fun y2=>
 Option.bind (checked (n+1) (y2.1.1,y2.1.2)) fun y3=>
 bif (y3.1 !=0) then
 none
 else
 some ((y2.1.1,y2.1.2),0,())
noncomputable def Ky:bw:=⟨6,[(false,(.aJ .byte)),(true,(.cons am (.cons am am))),(false,am)],[(true,(.cons (.aJ ka) (.aJ am))),(false,am)],11,fun n x=>load n x.1 x.2.1 x.2.2.1⟩
theorem Uz (n:Nat):aI Tryz.prog hint aG Ky n:=
 aI.of (hk:=fun β=>(an.mk [yd,sX,Bk,AX] []).hk β) (sh:=aG) (fun m _=>ab.aK ((((ab.nil.fn N9).fn MP).fn DO).fn JM) m) (fun x=>by kernel_rfl)
noncomputable def tS:Tm:=⟨[(0,ac),(1,ac),(2,ac),(8,.one (.str))],[],64,64,1000⟩
noncomputable def OY:Tm:=⟨[(0,ac),(1,ac),(2,ac),(8,.one (.str)),(9,ac)],[],64,64,1000⟩
noncomputable def IY:Nat->Int->Int->Int->d7->Int->Option ((Int×(Int×(Int×jp)))×Unit)
 |0,_,_,_,_,_=>none
 |n+1,t0,t1,t2,t8,t9=>
 bif (aR t9 t0) then
 bif (room ((List.length t8)+(List.length ([97,44]:List UInt8)))) then
 IY n t0 t1 t2 (t8++([97,44]:List UInt8)) (zal (t9+1))
 else none
 else
 some ((t0,(t1,(t2,(t8,())))),())
noncomputable def KX:aM:=⟨4,6,none,OY,[(.exit 0,tS)],0,fun n x=>IY n x.1.1 x.1.2.1 x.1.2.2.1 x.1.2.2.2.1 x.1.2.2.2.2.1,[],[]⟩
theorem wH:tS.ok Tryz.prog hint:=Tm.dh rfl
theorem zN:OY.ok Tryz.prog hint:=Tm.dh rfl
theorem T6:∀ n,ao Tryz.prog hint aG KX n:=
 ao.of (hk:=fun β=>(an.mk [] []).hk β) (sh:=aG) (aL.of (by kernel_rfl)) zN ⟨⟨wH,zai _,zai _⟩,trivial⟩ (fun m=>ab.aK ab.nil m)
  (fun _=>by kernel_rfl) (fun m x=>by kernel_rfl)
noncomputable def dQ (n:Nat) (k:Int) (nodes:Int) (bytes:Int):Option d6:=
 Option.bind (bif (aR k 0) then
 some true
 else
 bif (aR 200 k) then
 some true
 else
 bif (aR nodes 0) then
 some true
 else
 bif (aR 300 nodes) then
 some true
 else
 bif (aR bytes 0) then
 some true
 else
 some (aR 1000 bytes)) fun b1=>
 bif b1 then
 some (true,())
 else
 Option.bind (IY (n+12) k nodes bytes ([91]:List UInt8) 0) fun y2=>
 bif (room ((List.length y2.1.2.2.2.1)+(List.length ([93]:List UInt8)))) then
 Option.bind (load n (y2.1.2.2.2.1++([93]:List UInt8)) (y2.1.2.2.1,(5,y2.1.2.1)) 2) fun y3=>
 bif (aR y2.1.2.2.1 (len (y2.1.2.2.2.1++([93]:List UInt8)))) then
 bif (y3.2.1==3) then
 some (((len y3.1.1)==0),())
 else
 none
 else
 bif (aR y2.1.2.1 (zal (y2.1.1+1))) then
 bif (y3.2.1==9) then
 some (((len y3.1.1)==0),())
 else
 none
 else
 bif (y3.2.1==0) then
 bif ((len y3.1.1)==(zal (y2.1.1+1))) then
 some (true,())
 else
 some (false,())
 else
 none
 else none
noncomputable def kE:bw:=⟨4,[(false,am),(false,am),(false,am)],[(false,.bool)],12,fun n x=>dQ n x.1 x.2.1 x.2.2.1⟩
theorem C8 (n:Nat):aI Tryz.prog hint aG kE n:=
 aI.of (hk:=fun β=>(an.mk [Ky] [KX]).hk β) (sh:=aG) (fun m _=>ab.aK ((ab.nil.loop T6 zN).fn Uz) m) (fun x=>by kernel_rfl)
theorem bS {α β:Type} {a:Option α} {v:α} {f:α->Option β} {r:Option β} (h:a=some v) (h2:f v=r):Option.bind a f=r:=by subst h;exact h2
theorem cT {α:Type} {b:Bool} {x y r:α} (h:b=true) (h2:x=r):cond b x y=r:=by subst h;exact h2
theorem cF {α:Type} {b:Bool} {x y r:α} (h:b=false) (h2:y=r):cond b x y=r:=by subst h;exact h2
theorem c9 {n:Nat} (h:n<=1000000):room n=true:=uU (Nat.le_trans h (by decide))
set_option maxRecDepth 10000
theorem TG {α:Type} {l r:List α} {i:Nat} (h:l.drop i=r) (k:Nat):l[i+k]? =r[k]? :=by rw [←h,List.getElem?_drop]
theorem ZO (a b c:Int):(bif Go.Iv.aQ a c then some (Go.Iv.aQ c b) else some Bool.false)=some (decide (a<=c/\c<=b)):=by
 rw [kl,kl];by_cases h1:a<=c<;>by_cases h2:c<=b<;>simp [h1,h2]
def Sx (l:List UInt8) (c:Int):Bool:=l.any fun x=>ub x==c
theorem YI (b c:Bool):(bif b then some true else some c:Option Bool)=some (b ||c):=by cases b<;>rfl
theorem gz (a b:Int):(a==b)=decide (a=b):=by rw [Bool.eq_iff_iff];simp
theorem wq (n:Nat) (c:Int) (h1:32<=c) (h2:c<=126):print n c=some (true,()):=by
 unfold print;have a1:decide (c=9)=false:=decide_eq_false (by omega);have a2:decide (c=10)=false:=decide_eq_false (by omega);have a3:decide (c=13)=false:=decide_eq_false (by omega);have a4:decide (c=133)=false:=decide_eq_false (by omega);have a5:decide (32<=c/\c<=126)=true:=decide_eq_true ⟨h1,h2⟩;simp only [ZO,zaa,gz,a1,a2,a3,a4,a5,zab,zac]
def Ka (c:Int):Bool:=decide (c=32∨c=9)
theorem ej (n:Nat) (c:Int):blank n c=some (Ka c,()):=by
 unfold blank Ka;simp only [YI,zaa,gz,Bool.decide_or]
theorem sB (s:List UInt8) (c:Int) (N:Int) (hN:N=s.length) (hs:s.length<1000000):∀ (r:List UInt8) (i n:Nat),s.drop i=r->r.length+1<=n->i<=s.length->oG n c s N (i:Int)=if Sx r c then some (.inr ((true,()),())) else some (.inl ((),())):=by
 intro r
 induction r with
 |nil=>
  intro i n hr hn hi;obtain ⟨n,rfl⟩:∃ k,n=k+1:=⟨n - 1,by simp at hn;omega⟩;have hlen:s.length<=i:=by simpa using hr
  simp only [oG,hN,br (show (s.length:Int)<=i by omega),zab];rfl
 |cons x r ih=>
  intro i n hr hn hi;obtain ⟨n,rfl⟩:∃ k,n=k+1:=⟨n - 1,by simp at hn;omega⟩;simp only [zad] at hn;have hlen:s.length=i+r.length+1:=by
   have:=congrArg List.length hr;simp at this;omega
  have e0:(Int.toNat (i:Int))=i:=rfl;have hx:s[i]? =some x:=by have:=TG hr 0;simpa using this
  have w:zal ((i:Int)+1)=((i+1:Nat):Int):=by rw [bC]<;>omega
  have hd:s.drop (i+1)=r:=by rw [←zah,hr];rfl
  simp only [oG,hN,bA (show (i:Int)<s.length by omega),cu (show (0:Int)<=i by omega),zac,e0,hx,zaa,S5,w];have:=ih (i+1) n hd (by omega) (by omega);rw [hN] at this;rw [this];rw [show Sx (x::r) c=((ub x==c) ||Sx r c) from rfl];cases hb:(ub x==c) with
  |true=>rfl
  |false=>rfl
def UZ:List UInt8:= [44,91,93,123,125]
def X7:List UInt8:= [45,63,58,44,91,93,123,125,35,38,42,33,124,62,39,34,37,64,96]
theorem ot (n:Nat) (c:Int) (hn:10<=n):DL n c=some (Sx UZ c,()):=by
 unfold DL;rw [show ([44,91,93,123,125]:List UInt8)=UZ from rfl];have:=sB UZ c 5 rfl (by decide) UZ 0 (n+1) rfl (by show 5+1<=n+1;omega) (by decide);refine (congrArg (fun z=>Option.bind z _) this).trans ?_;cases Sx UZ c<;>rfl
theorem Jo (n:Nat) (c:Int) (hn:30<=n):LZ n c=some (Sx X7 c,()):=by
 unfold LZ;have:=sB X7 c 19 rfl (by decide) X7 0 (n+1) rfl (by show 19+1<=n+1;omega) (by decide);refine (congrArg (fun z=>Option.bind z _) this).trans ?_;cases Sx X7 c<;>rfl
theorem Wq (a b:Int):(a !=b)=decide (a≠b):=by rw [Bool.eq_iff_iff];simp
theorem RW (n:Nat) (r:List Int) (hr:r.length<100000) (hn:30<=n):BO n (97::r) true=some (true,()):=by
 have e1:aR (0:Int) (len (97::r))=true:=bA (by unfold len;simp);have h:safe n (97::r) 0 true=some (true,()):=by
  unfold safe;refine cT e1 ?_;refine cT rfl ?_;refine bS (v:=97) rfl ?_;refine bS (wq _ _ (by decide) (by decide)) ?_;refine cT rfl ?_;refine bS (ej _ _) ?_;refine cT (by decide) ?_;refine cT rfl ?_;refine cT rfl ?_;refine cT rfl ?_;refine cT rfl ?_;exact bS (ot n 97 (by omega)) rfl
 unfold BO;refine bS h ?_;refine cF rfl ?_;refine bS (v:=97) rfl ?_;refine cF rfl ?_;refine cF rfl ?_;refine cF rfl ?_;refine bS (v:=97) rfl ?_;refine bS (Jo _ 97 (by omega)) ?_;rfl
theorem W3 (n:Nat) (r:List Int) (h:r.length<100000) (hn:r.length+40<=n) (c:Int) (hc:Sx UZ c=true) (hb:Ka c=false):TY n (97::c::r) true=some (1,()):=by
 have c1:(c==58)=false:=by rw [gz];exact decide_eq_false fun e=>by rw [e] at hc;exact absurd hc (by decide)
 have c2:(c==35)=false:=by rw [gz];exact decide_eq_false fun e=>by rw [e] at hc;exact absurd hc (by decide)
 obtain ⟨m,rfl⟩:∃ m,n=m+2:=⟨n - 2,by omega⟩;have hs:stop (m+2) (97::c::r) true=some (1,()):=by
  unfold stop;refine bS (v:=((),((97::c::r,()),((true,()),((1,()),((true,()),(((),((),((),()))),()))))))) ?_ rfl;rw [vI];refine cT (show aR (0:Int) (len (97::c::r))=true from bA (by unfold len;simp<;>omega)) ?_;refine cT rfl ?_;refine bS (v:=97) rfl ?_;refine cF rfl ?_;refine cF rfl ?_;refine cT rfl ?_;refine bS (ot _ 97 (by omega)) ?_;refine cF rfl ?_;rw [show zal ((0:Int)+1)=1 from rfl,vI];refine cT (show aR (1:Int) (len (97::c::r))=true from bA (by unfold len;simp<;>omega)) ?_;refine cT rfl ?_;refine bS (v:=c) rfl ?_;refine cF c1 ?_;refine cF c2 ?_;refine cT rfl ?_;refine bS (ot _ c (by omega)) ?_;refine cT hc ?_;refine cT rfl ?_;refine bS (v:=c) rfl ?_;refine cF c1 ?_;refine cT rfl ?_;refine bS (v:=c) rfl ?_;exact cF c2 rfl
 unfold TY;refine bS hs ?_;refine bS (v:=((1,()),())) ?_ rfl;rw [Jr];refine cT rfl ?_;refine cT rfl ?_;refine bS (v:=97) rfl ?_;refine bS (ej _ _) ?_;exact cF rfl rfl
set_option maxRecDepth 10000
theorem fe (n:Nat) (T:List Int) (k:Nat) (hk:k<=T.length) (hT:T.length<1000000000):qA n ((0:Int),(k:Int)) [((0:Int),T)]=some ((T.drop k,()),()):=by
 unfold qA;have e1:len [((0:Int),T)]=1:=rfl;have e2:([((0:Int),T)]:List i6)[Int.toNat 0]? =some (0,T):=rfl;have e3:zal ((k:Int) - 0)=(k:Int):=by rw [bC]<;>omega
 have e4:(Int.toNat (k:Int))=k:=rfl
 simp only [br (show (0:Int)<=0 by omega),e1,lT (show (0:Int)<1 by omega),br (show (0:Int)<=(k:Int) by omega),cu (show (0:Int)<=0 by omega),zac,zab,e2,zaa,e3,
  br (show (k:Int)<=len T by unfold len;omega),cu (show (0:Int)<=(k:Int) by omega),cu (show (k:Int)<=len T by unfold len;omega),Bool.and_self,e4]
 rw [List.take_of_length_le (by simp)]
def hd (c:Int):List Int->Bool
 | []=>false
 |x::_=>x==c
theorem pG (n:Nat) (T:List Int) (k:Nat) (c:Int) (hk:k<T.length) (hT:T.length<1000000000):Wh n ((0:Int),(k:Int)) c [((0:Int),T)]=some ((hd c (T.drop k),()),()):=by
 unfold Wh;rw [fe n T k (Nat.le_of_lt hk) hT];simp only [zaa];cases hq:T.drop k with
 |nil=>exact absurd (List.drop_eq_nil_iff.1 hq) (by omega)
 |cons x r=>
  have:aR (0:Int) (len (x::r))=true:=bA (by unfold len;simp);simp only [this,zac,List.getElem?_cons_zero,zaa,hd]
theorem NX (n:Nat) (l:List Int) (a b:Int) (h:∀ c,l.head? =some c->Ka c=false):C9 (n+1) l a b 0 0=some (((),((),(l,()))),((a,(b,())),((0,(0,())),()))):=by
 cases l with
 |nil=>rfl
 |cons x r=>
  have:aR (0:Int) (len (x::r))=true:=bA (by unfold len;simp);simp only [C9,this,zac,List.getElem?_cons_zero,zaa,ej,h x rfl,zab]
theorem ox (n:Nat) (T:List Int) (k:Nat) (hk:k<=T.length) (hT:T.length<1000000000) (h:∀ c,(T.drop k).head? =some c->Ka c=false):s5 (n+1) ((0:Int),(k:Int)) [((0:Int),T)]=some ((((0:Int),(k:Int)),(T.drop k,())),()):=by
 unfold s5;have e1:len [((0:Int),T)]=1:=rfl;have e2:([((0:Int),T)]:List i6)[Int.toNat 0]? =some (0,T):=rfl;simp only [cu (show (0:Int)<=0 by omega),e1,bA (show (0:Int)<1 by omega),zac,e2,zaa,br (show (0:Int)<=(k:Int) by omega),zab,fe (n+1) T k hk hT,NX n (T.drop k) _ _ h]
theorem zr (n:Nat) (p:Int×Int) (c:Int) (r:List Int) (L:List i6) (h:c≠35):o5 n p (c::r) L=some ((false,()),()):=by
 unfold o5;have e1:((len (c::r))==(0:Int))=false:=by unfold len;rw [gz];exact decide_eq_false (by simp;omega)
 have e2:(c !=(35:Int))=true:=by rw [Wq];exact decide_eq_true h
 simp only [e1,zab,List.getElem?_cons_zero,zaa,e2,zac]
def there (T:List Int) (k:Nat):Prop:=∃ c r,T.drop k=c::r/\Ka c=false/\c≠35
theorem there.le {T:List Int} {k:Nat} (h:there T k):k<T.length:=by
 obtain ⟨c,r,h,_⟩:=h;have:=congrArg List.length h;simp at this;omega
theorem EC (n:Nat) (T:List Int) (k:Nat) (nn:Int) (hT:T.length<1000000000) (h:there T k):Xt (n+1) ((0:Int),(k:Int)) [((0:Int),T)] nn=some ((((0:Int),(k:Int)),(true,())),()):=by
 have hk:=Nat.le_of_lt h.le;obtain ⟨c,r,hd,hb,hc⟩:=h;have hp:∀ m,s5 (m+1) ((0:Int),(k:Int)) [((0:Int),T)]=some ((((0:Int),(k:Int)),(c::r,())),()):=fun m=>by
  rw [ox m T k hk hT (by rw [hd];intro x hx;cases hx;exact hb),hd]
 have e1:aR (0:Int) (len (c::r))=true:=bA (by unfold len;simp);unfold Xt;simp only [IE,show n+2=(n+1)+1 from rfl,hp,zaa,e1,zac,zr _ _ c r _ hc,Bool.not_false,Bool.not_true,zab,br (show (0:Int)<=0 by omega)]
theorem kC (n:Nat) (T:List Int) (k:Nat) (nn:Int) (hT:T.length<1000000000) (h:there T k):yk (n+1) ((0:Int),(k:Int)) [((0:Int),T)] nn=some (.inl ((((0:Int),(k:Int)),()),())):=by
 unfold yk;simp only [EC n T k nn hT h,zaa,Bool.not_true,zab]
theorem kJ (n:Nat) (T:List Int) (k:Nat) (nn c:Int) (r:List Int) (hT:T.length<1000000000) (hd:T.drop k=c::r) (hb:Ka c=false) (h1:c≠35) (h2:c≠38) (h3:c≠33):
  pc (n+1) ((0:Int),(k:Int)) [((0:Int),T)] nn=some (.inl (((([],([],(0,0))),(((0:Int),(k:Int)),(true,()))),()))):=by
 have h:there T k:=⟨c,r,hd,hb,h1⟩;have e1:((len (c::r))==(0:Int))=false:=by unfold len;rw [gz];exact decide_eq_false (by simp;omega)
 have e2:(c !=(38:Int))=true:=by rw [Wq];exact decide_eq_true h2
 have e3:(c !=(33:Int))=true:=by rw [Wq];exact decide_eq_true h3
 unfold pc;simp only [EC n T k nn hT h,zaa,show n+1+2=(n+2)+1 from rfl,JY,zac,fe _ T k (Nat.le_of_lt h.le) hT,hd,e1,zab,List.getElem?_cons_zero,e2,e3]
theorem sL (n:Nat) (T:List Int) (k:Nat) (c x:Int) (r:List Int) (hT:T.length<1000000000) (hd:T.drop k=x::r) (hx:x≠c):xb n ((0:Int),(k:Int)) c [((0:Int),T)]=some ((false,()),()):=by
 have hk:k<=T.length:=by have:=congrArg List.length hd;simp at this;omega
 have e1:aR (0:Int) (len (x::r))=true:=bA (by unfold len;simp);have e2:(x==c)=false:=by rw [gz];exact decide_eq_false hx
 unfold xb;simp only [fe _ T k hk hT,hd,zaa,e1,zac,List.getElem?_cons_zero,e2,zab]
theorem JH (n:Nat) (T:List Int) (k:Nat) (key:gt×Bool) (x:Int) (r:List Int) (hT:T.length<1000000000) (hdr:T.drop k=x::r) (hx:x≠58):KA n ((0:Int),(k:Int)) key [((0:Int),T)]=some ((false,()),()):=by
 have hk:k<T.length:=by have:=congrArg List.length hdr;simp at this;omega
 unfold KA;have e2:hd 58 (T.drop k)=false:=by rw [hdr];show (x==58)=false;rw [gz];exact decide_eq_false hx
 simp only [sL n T k 58 x r hT hdr hx,zaa,zab,pG _ T k 58 hk hT,e2]
theorem nB (n:Nat) (x:Int) (r:List Int):lO n true (x::r)=some ((false,()),()):=by
 have e1:((len (x::r))==(0:Int))=false:=by unfold len;rw [gz];exact decide_eq_false (by simp;omega)
 unfold lO;simp only [zac,e1]
theorem Wd (n:Nat) (op:List Int) (h:op.length<200):KU n 0 0 op=some (.inl ((),())):=by
 unfold KU;have e1:zal (zal ((0:Int)+len op)+0)=(op.length:Int):=by
  unfold len;rw [bC (x:=0+(op.length:Int)) (by omega) (by omega),bC (by omega) (by omega)];omega
 simp only [e1,lT (show (0:Int)<200 by omega),lT (show (op.length:Int)<200 by omega),zab]
end Go.Proofs.YtdelfjdjenlaiaaGreatDoor
