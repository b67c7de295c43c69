/- Plain functions for the program's. -/
import Derived.Test.YteknbnkjelmfaaaGreatDoorGs
import Derived.Test.YteknbnkjelmfaaaGreatDoorProg
import Derived.KernelRfl
set_option linter.unusedSimpArgs false
set_option linter.unusedVariables false
namespace Go.Proofs.YteknbnkjelmfaaaGreatDoor
open Go Go.Iv Go.Gv
set_option maxRecDepth 100000
noncomputable def hex (_n:Nat) (c:Int):Option (Int×Unit):=
 Option.bind (bif (au 48 c) then
  some (au c 57)
 else
 some false) fun b1=>
 bif b1 then
 some ((zap (c - 48)),())
 else
 Option.bind (bif (au 97 c) then
  some (au c 102)
 else
 some false) fun b3=>
 bif b3 then
 some ((zap ((zap (c - 97))+10)),())
 else
 Option.bind (bif (au 65 c) then
  some (au c 70)
 else
 some false) fun b5=>
 bif b5 then
 some ((zap ((zap (c - 65))+10)),())
 else
 some ((-1),())
noncomputable def Jt:aZ:=⟨122,[(false,(.int .i64))],[(false,(.int .i64))],1,fun n x=>hex n x.1⟩
theorem Oi (n:Nat):az Tryz.prog hint aI Jt n:=
 az.of (hk:=fun β=>(aq.mk [] []).hk β) (sh:=aI) (fun m _=>ab.aC ab.nil m) (fun x=>by kernel_rfl)
noncomputable def word (_n:Nat) (c:Int):Option (Bool×Unit):=
 Option.bind (bif (au 48 c) then
  some (au c 57)
 else
 some false) fun b1=>
 bif b1 then
 some (true,())
 else
 Option.bind (bif (au 97 c) then
  some (au c 122)
 else
 some false) fun b3=>
 bif b3 then
 some (true,())
 else
 Option.bind (bif (au 65 c) then
  some (au c 90)
 else
 some false) fun b5=>
 bif b5 then
 some (true,())
 else
 some ((c==45),())
noncomputable def Lp:aZ:=⟨123,[(false,(.int .i64))],[(false,.bool)],1,fun n x=>word n x.1⟩
theorem SJ (n:Nat):az Tryz.prog hint aI Lp n:=
 az.of (hk:=fun β=>(aq.mk [] []).hk β) (sh:=aI) (fun m _=>ab.aC ab.nil m) (fun x=>by kernel_rfl)
noncomputable def mw:Tm:=⟨[],[],64,64,1000⟩
noncomputable def qB:Tm:=⟨[(2,.one (.int .i64))],[],64,64,1000⟩
noncomputable def AI:Tm:=⟨[(0,.one (.aT (.int .i64))),(34,.one (.aT .byte)),(35,.one (.int .i64)),(36,.one (.int .i64))],[],64,64,1000⟩
noncomputable def mV:Nat->(List Int)->(List UInt8)->Int->Int->Option ((Unit×Unit)⊕((Int×Unit)×Unit))
 |0,_,_,_,_=>none
 |n+1,t0,t34,t35,t36=>
 bif (aX t36 t35) then
  bif (au 0 t36) then
  Option.bind (t34[(Int.toNat t36)]?) fun x11=>
  Option.bind (t0[0]?) fun x12=>
  bif (x12==(zap (ub x11))) then
  some (.inr ((1,()),()))
  else
  mV n t0 t34 t35 (zap (t36+1))
  else none
 else
 some (.inl ((),()))
noncomputable def xf:aO:=⟨107,10,none,AI,[(.exit 0,mw),(.ret,qB)],0,fun n x=>mV n x.1.1 x.1.2.1 x.1.2.2.1 x.1.2.2.2.1,[]⟩
theorem pG:mw.ok Tryz.prog hint:=Tm.cC rfl
theorem u9:qB.ok Tryz.prog hint:=Tm.cC rfl
theorem o9:AI.ok Tryz.prog hint:=Tm.cC rfl
theorem Jr:∀ n,aw Tryz.prog hint aI xf n:=
 aw.of (hk:=fun β=>(aq.mk [] []).hk β) (sh:=aI) (aQ.of (by kernel_rfl)) o9 ⟨⟨pG,zam _,zam _⟩,⟨u9,zam _,zam _⟩,trivial⟩ (fun m=>ab.aC ab.nil m)
  (fun _=>by kernel_rfl) (fun m x=>by kernel_rfl)
noncomputable def sign (n:Nat) (l:List Int):Option (Int×Unit):=
 bif ((len l)==0) then
 some (0,())
 else
 Option.bind (l[0]?) fun x0=>
 bif (x0==37) then
 bif (aX 2 (len l)) then
  Option.bind (l[1]?) fun x1=>
  Option.bind (hex n x1) fun y2=>
  bif (au 0 y2.1) then
  Option.bind (l[2]?) fun x3=>
  Option.bind (hex n x3) fun y4=>
  bif (au 0 y4.1) then
   some (3,())
  else
  some (0,())
  else
  some (0,())
 else
 some (0,())
 else
 Option.bind (l[0]?) fun x5=>
 Option.bind (word n x5) fun y6=>
 bif y6.1 then
 some (1,())
 else
 Option.bind (mV (n+2) l ([35,59,47,63,58,64,38,61,43,36,44,95,46,33,126,42,39,40,41,91,93]:List UInt8) 21 0) fun y13=>
 match y13 with
 | .inl _=>
  some (0,())
 | .inr y15=>
  some (y15.1.1,())
noncomputable def Kn:aZ:=⟨107,[(false,(.cy (.int .i64)))],[(false,(.int .i64))],2,fun n x=>sign n x.1⟩
theorem Te (n:Nat):az Tryz.prog hint aI Kn n:=
 az.of (hk:=fun β=>(aq.mk [Lp,Jt] [xf]).hk β) (sh:=aI) (fun m _=>ab.aC (((ab.nil.fn Oi).fn SJ).loop Jr o9) m) (fun x=>by kernel_rfl)
noncomputable def pF:Tm:=⟨[(3,.one (.all 64 3 (.int .i64) .ex))],[],64,65,1000⟩
noncomputable def JS:Tm:=⟨[(3,.one (.all 64 3 (.int .i64) .ex)),(7,.one (.aT .byte)),(8,.one (.int .i64)),(9,.one (.int .i64))],[],64,65,1000⟩
noncomputable def AY:Nat->(List Int)->(List UInt8)->Int->Int->Option (((List Int)×Unit)×Unit)
 |0,_,_,_,_=>none
 |n+1,t3,t7,t8,t9=>
 bif (aX t9 t8) then
  bif (au 0 t9) then
  Option.bind (t7[(Int.toNat t9)]?) fun x3=>
  bif (room (((List.length t3)+(List.length ((zap (ub x3))::([]:List Int))))*9)) then
  AY n (t3++((zap (ub x3))::([]:List Int))) t7 t8 (zap (t9+1))
  else none
  else none
 else
 some ((t3,()),())
noncomputable def Gc:aO:=⟨54,3,none,JS,[(.exit 0,pF)],0,fun n x=>AY n x.1.1 x.1.2.1 x.1.2.2.1 x.1.2.2.2.1,[]⟩
theorem uS:pF.ok Tryz.prog hint:=Tm.cC rfl
theorem xO:JS.ok Tryz.prog hint:=Tm.cC rfl
theorem NR:∀ n,aw Tryz.prog hint aI Gc n:=
 aw.of (hk:=fun β=>(aq.mk [] []).hk β) (sh:=aI) (aQ.of (by kernel_rfl)) xO ⟨⟨uS,zam _,zam _⟩,trivial⟩ (fun m=>ab.aC ab.nil m)
  (fun _=>by kernel_rfl) (fun m x=>by kernel_rfl)
noncomputable def l9:Tm:=⟨[],[(65,.cells 23 [.aT (.int .i64)] true),(66,.cells 80 [.fix (TV.fn 78 [] [])] true),(67,.cells 3 [.int .i64] true),(68,.cells 23 [.aT (.int .i64)] true),(69,.loop 77 Go.LoopState.ready (Option.none) (nc Tryz.prog hint 77) [(2,.one (.fix (TV.ptr 65 0))),(3,.one (.fix (TV.ptr 66 0))),(5,.one (.fix (TV.ptr 67 0)))] (aU Tryz.prog 77 5).1 (aU Tryz.prog 77 5).2.1 (aU Tryz.prog 77 5).2.2)],70,70,2008⟩
noncomputable def wo:Tm:=⟨[(0,.one (.fix (TV.mI 69))),(1,.one (.fix (TV.ptr 68 0))),(3,.one (.int .i64))],[(65,.cells 23 [.aT (.int .i64)] true),(66,.cells 80 [.fix (TV.fn 78 [] [])] true),(67,.cells 3 [.int .i64] true),(68,.cells 23 [.aT (.int .i64)] true),(69,.loop 77 Go.LoopState.ready (Option.none) (nc Tryz.prog hint 77) [(2,.one (.fix (TV.ptr 65 0))),(3,.one (.fix (TV.ptr 66 0))),(5,.one (.fix (TV.ptr 67 0)))] (aU Tryz.prog 77 5).1 (aU Tryz.prog 77 5).2.1 (aU Tryz.prog 77 5).2.2)],70,70,2008⟩
noncomputable def rW:Nat->Int->(List Int)->Int->(List Int)->Option (Unit×(((List Int)×Unit)×((Unit×Unit)×((Int×Unit)×(((List Int)×Unit)×((Unit×(Unit×(Unit×Unit)))×Unit))))))
 |0,_,_,_,_=>none
 |n+1,t3,c65_0,c67_0,c68_0=>
 bif ((au 0 t3) &&(au t3 (len c68_0))) then
 Option.bind (sign (n+1) (List.take ((List.length c68_0) - (Int.toNat t3)) (List.drop (Int.toNat t3) c68_0))) fun y9=>
 bif (y9.1==0) then
  some ((),((c65_0,()),(((),()),((c67_0,()),((c68_0,()),(((),((),((),()))),()))))))
 else
 bif (au 0 t3) then
 Option.bind (c65_0[(Int.toNat t3)]?) fun _=>
 rW n (zap (t3+y9.1)) c65_0 (zap (t3+y9.1)) c68_0
 else none
 else none
noncomputable def Bp:aO:=⟨106,1,none,wo,[(.ret,l9)],3,fun n x=>rW n x.1.2.2.1 x.2.1.1 x.2.2.2.1.1 x.2.2.2.2.1.1,[64]⟩
theorem yy:l9.ok Tryz.prog hint:=by
 intro p hp;simp only [l9,List.mem_cons,List.not_mem_nil,or_false] at hp;rcases hp with rfl |rfl |rfl |rfl |rfl
 ·trivial
 ·trivial
 ·trivial
 ·trivial
 ·exact nR.of (by kernel_rfl) (by kernel_rfl)
theorem tS:wo.ok Tryz.prog hint:=by
 intro p hp;simp only [wo,List.mem_cons,List.not_mem_nil,or_false] at hp;rcases hp with rfl |rfl |rfl |rfl |rfl
 ·trivial
 ·trivial
 ·trivial
 ·trivial
 ·exact nR.of (by kernel_rfl) (by kernel_rfl)
theorem M8:∀ n,aw Tryz.prog hint aI Bp n:=
 aw.of (hk:=fun β=>(aq.mk [Kn] []).hk β) (sh:=aI) (aQ.of (by kernel_rfl)) tS ⟨⟨yy,zam _,zam _⟩,trivial⟩ (fun m=>ab.aC (ab.nil.fn Te) m)
  (fun _=>by kernel_rfl) (fun m x=>by kernel_rfl)
noncomputable def valid (n:Nat) (tag:List UInt8):Option (Bool×Unit):=
 Option.bind (AY (n+5) ([]:List Int) tag (len tag) 0) fun y4=>
 bif (aX 0 (len y4.1.1)) then
 Option.bind (rW n 0 y4.1.1 0 y4.1.1) fun y11=>
 some ((y11.2.2.2.1.1==(len y4.1.1)),())
 else
 some (false,())
noncomputable def FE:aZ:=⟨54,[(false,.str)],[(false,.bool)],5,fun n x=>valid n x.1⟩
theorem Oe (n:Nat):az Tryz.prog hint aI FE n:=
 az.of (hk:=fun β=>(aq.mk [] [Bp,Gc]).hk β) (sh:=aI) (fun m _=>ab.aC ((ab.nil.loop NR xO).loop M8 tS) m) (fun x=>by kernel_rfl)
noncomputable def wY (_n:Nat) (s:List UInt8):Option (Bool×Unit):=
 bif (au (len s) 262144) then
 bif (Nat.ble (List.length s) 9223372036854775807) then
 some ((Go.Lib.validD s),())
 else none
 else
 some (false,())
noncomputable def B3:aZ:=⟨55,[(false,.str)],[(false,.bool)],1,fun n x=>wY n x.1⟩
theorem Ms (n:Nat):az Tryz.prog hint aI B3 n:=
 az.of (hk:=fun β=>(aq.mk [] []).hk β) (sh:=aI) (fun m _=>ab.aC ab.nil m) (fun x=>by kernel_rfl)
noncomputable def qc:Tm:=⟨[],[(64,.cells 25 [.aT sN,.aT (.int .i64)] true)],65,65,1001⟩
noncomputable def yu:Tm:=⟨[(4,.one (.bool))],[(64,.cells 25 [.aT sN,.aT (.int .i64)] true)],65,65,1001⟩
noncomputable def Ll:Tm:=⟨[(2,.one (.fix (TV.ptr 64 0))),(7,.one (.aT (.int .i64))),(8,.one (.int .i64)),(9,.one (.int .i64))],[(64,.cells 25 [.aT sN,.aT (.int .i64)] true)],65,65,1001⟩
noncomputable def Bh:Nat->(List Int)->Int->Int->qN->(List Int)->Option ((Unit×((qN×((List Int)×Unit))×Unit))⊕((Bool×Unit)×((qN×((List Int)×Unit))×Unit)))
 |0,_,_,_,_,_=>none
 |n+1,t7,t8,t9,c64_0,c64_1=>
 bif (aX t9 t8) then
  bif (au 0 t9) then
  Option.bind (t7[(Int.toNat t9)]?) fun x6=>
  Option.bind (bif (aX x6 0) then
   some true
  else
  some (au (len c64_0) x6)) fun b8=>
  bif b8 then
  some (.inr ((false,()),((c64_0,(c64_1,())),())))
  else
  Bh n t7 t8 (zap (t9+1)) c64_0 c64_1
  else none
 else
 some (.inl ((),((c64_0,(c64_1,())),())))
noncomputable def Eu:aO:=⟨31,2,none,Ll,[(.exit 0,qc),(.ret,yu)],0,fun n x=>Bh n x.1.2.1 x.1.2.2.1 x.1.2.2.2.1 x.2.1.1 x.2.1.2.1,[]⟩
theorem uG:qc.ok Tryz.prog hint:=Tm.cC rfl
theorem zC:yu.ok Tryz.prog hint:=Tm.cC rfl
theorem xK:Ll.ok Tryz.prog hint:=Tm.cC rfl
theorem NP:∀ n,aw Tryz.prog hint aI Eu n:=
 aw.of (hk:=fun β=>(aq.mk [] []).hk β) (sh:=aI) (aQ.of (by kernel_rfl)) xK ⟨⟨uG,zam _,zam _⟩,⟨zC,zam _,zam _⟩,trivial⟩ (fun m=>ab.aC ab.nil m)
  (fun _=>by kernel_rfl) (fun m x=>by kernel_rfl)
noncomputable def VM (n:Nat) (g:(List (Int×(List UInt8×(List UInt8×(List Int×Bool))))×List Int)) (l:List Int):Option (Bool×Unit):=
 Option.bind (Bh (n+1) l (len l) 0 g.1 g.2) fun y9=>
 match y9 with
 | .inl _=>
  some (true,())
 | .inr y11=>
  some (y11.1.1,())
noncomputable def IQ:aZ:=⟨31,[(true,(.cons (.cy sN) (.cy (.int .i64)))),(false,(.cy (.int .i64)))],[(false,.bool)],1,fun n x=>VM n x.1 x.2.1⟩
theorem Qr (n:Nat):az Tryz.prog hint aI IQ n:=
 az.of (hk:=fun β=>(aq.mk [] [Eu]).hk β) (sh:=aI) (fun m _=>ab.aC (ab.nil.loop NP xK) m) (fun x=>by kernel_rfl)
noncomputable def node (n:Nat) (x:(Int×(List UInt8×(List UInt8×(List Int×Bool))))):Option (Bool×Unit):=
 bif (aX 1000 (len x.2.1)) then
 some (false,())
 else
 bif (x.2.1==([33]:List UInt8)) then
 some (false,())
 else
 Option.bind (valid n x.2.1) fun y0=>
 bif (!y0.1) then
 some (false,())
 else
 bif (x.1==1) then
 bif ((len x.2.2.2.1)==0) then
  Option.bind (wY (n+4) x.2.2.1) fun y1=>
  some (y1.1,())
 else
 some (false,())
 else
 bif (x.1==2) then
 Option.bind (bif (x.2.2.1==([]:List UInt8)) then
  some (!x.2.2.2.2)
  else
  some false) fun b3=>
 some (b3,())
 else
 bif (x.1==3) then
 Option.bind (bif (x.2.2.1==([]:List UInt8)) then
  bif (!x.2.2.2.2) then
   some ((Int.tmod (len x.2.2.2.1) 2)==0)
  else
  some false
  else
  some false) fun b5=>
 some (b5,())
 else
 some (false,())
noncomputable def KQ:aZ:=⟨32,[(true,sN)],[(false,.bool)],6,fun n x=>node n x.1⟩
theorem R5 (n:Nat):az Tryz.prog hint aI KQ n:=
 az.of (hk:=fun β=>(aq.mk [B3,FE] []).hk β) (sh:=aI) (fun m _=>ab.aC ((ab.nil.fn Oe).fn Ms) m) (fun x=>by kernel_rfl)
noncomputable def qu:Tm:=⟨[],[(64,.cells 25 [.aT sN,.aT (.int .i64)] true)],65,65,1001⟩
noncomputable def wu:Tm:=⟨[(2,.one (.bool))],[(64,.cells 25 [.aT sN,.aT (.int .i64)] true)],65,65,1001⟩
noncomputable def JZ:Tm:=⟨[(1,.one (.fix (TV.ptr 64 0))),(3,.one (.int .i64)),(24,.one (.aT sN)),(25,.one (.int .i64)),(26,.one (.int .i64))],[(64,.cells 25 [.aT sN,.aT (.int .i64)] true)],65,65,1001⟩
noncomputable def AA:Nat->Int->qN->Int->Int->qN->(List Int)->Option ((Unit×((qN×((List Int)×Unit))×Unit))⊕((Bool×Unit)×((qN×((List Int)×Unit))×Unit)))
 |0,_,_,_,_,_,_=>none
 |n+1,t3,t24,t25,t26,c64_0,c64_1=>
 bif (aX t26 t25) then
  bif (au 0 t26) then
  Option.bind (t24[(Int.toNat t26)]?) fun x7=>
  bif (aX 20000 (zap (t3+(len x7.2.2.2.1)))) then
  some (.inr ((false,()),((c64_0,(c64_1,())),())))
  else
  Option.bind (node (n+1) (x7.1,(x7.2.1,(x7.2.2.1,(x7.2.2.2.1,x7.2.2.2.2))))) fun y8=>
  bif (!y8.1) then
  some (.inr ((false,()),((c64_0,(c64_1,())),())))
  else
  Option.bind (VM (n+6) (c64_0,c64_1) x7.2.2.2.1) fun y9=>
  bif (!y9.1) then
  some (.inr ((false,()),((c64_0,(c64_1,())),())))
  else
  AA n (zap (t3+(len x7.2.2.2.1))) t24 t25 (zap (t26+1)) c64_0 c64_1
  else none
 else
 some (.inl ((),((c64_0,(c64_1,())),())))
noncomputable def G1:aO:=⟨17,5,none,JZ,[(.exit 0,qu),(.ret,wu)],7,fun n x=>AA n x.1.2.1 x.1.2.2.1 x.1.2.2.2.1 x.1.2.2.2.2.1 x.2.1.1 x.2.1.2.1,[]⟩
theorem uH:qu.ok Tryz.prog hint:=Tm.cC rfl
theorem zY:wu.ok Tryz.prog hint:=Tm.cC rfl
theorem xH:JZ.ok Tryz.prog hint:=Tm.cC rfl
theorem QM:∀ n,aw Tryz.prog hint aI G1 n:=
 aw.of (hk:=fun β=>(aq.mk [IQ,KQ] []).hk β) (sh:=aI) (aQ.of (by kernel_rfl)) xH ⟨⟨uH,zam _,zam _⟩,⟨zY,zam _,zam _⟩,trivial⟩ (fun m=>ab.aC ((ab.nil.fn R5).fn Qr) m)
  (fun _=>by kernel_rfl) (fun m x=>by kernel_rfl)
noncomputable def right (n:Nat) (g:(List (Int×(List UInt8×(List UInt8×(List Int×Bool))))×List Int)):Option (Bool×Unit):=
 bif (aX 20000 (len g.1)) then
 some (false,())
 else
 bif (aX 20000 (len g.2)) then
 some (false,())
 else
 Option.bind (VM (n+5) (g.1,g.2) g.2) fun y0=>
 bif (!y0.1) then
 some (false,())
 else
 Option.bind (AA n 0 g.1 (len g.1) 0 g.1 g.2) fun y10=>
 match y10 with
 | .inl _=>
  some (true,())
 | .inr y12=>
  some (y12.1.1,())
noncomputable def FT:aZ:=⟨17,[(true,(.cons (.cy sN) (.cy (.int .i64))))],[(false,.bool)],7,fun n x=>right n x.1⟩
theorem PG (n:Nat):az Tryz.prog hint aI FT n:=
 az.of (hk:=fun β=>(aq.mk [IQ] [G1]).hk β) (sh:=aI) (fun m _=>ab.aC ((ab.nil.fn Qr).loop QM xH) m) (fun x=>by kernel_rfl)
noncomputable def tD:Tm:=⟨[(1,.one (.fix (TV.ptr 64 0))),(3,.one (.int .i64))],[(64,.cells 25 [.aT sN,.aT (.int .i64)] true)],65,65,1001⟩
noncomputable def Q4:Tm:=⟨[(1,.one (.fix (TV.ptr 64 0))),(3,.one (.int .i64)),(4,.one (.int .i64))],[(64,.cells 25 [.aT sN,.aT (.int .i64)] true)],65,65,1001⟩
noncomputable def HQ:Nat->Int->Int->qN->(List Int)->Option ((Unit×(Int×Unit))×((qN×((List Int)×Unit))×Unit))
 |0,_,_,_,_=>none
 |n+1,t3,t4,c64_0,c64_1=>
 Option.bind (bif (aX t4 (len c64_0)) then
  some (aX t4 100)
  else
  some false) fun b11=>
 bif b11 then
  bif (au 0 t4) then
  Option.bind (c64_0[(Int.toNat t4)]?) fun x12=>
  bif (au 0 t4) then
  Option.bind (c64_0[(Int.toNat t4)]?) fun x13=>
  bif (au 0 t4) then
  Option.bind (c64_0[(Int.toNat t4)]?) fun x14=>
  HQ n (zap ((zap ((zap (t3+(len x12.2.2.2.1)))+(zap (Int.tdiv (len x13.2.2.1) 20))))+(zap (Int.tdiv (len x14.2.1) 20)))) (zap (t4+1)) c64_0 c64_1
  else none
  else none
  else none
 else
 some (((),(t3,())),((c64_0,(c64_1,())),()))
noncomputable def JO:aO:=⟨8,3,none,Q4,[(.exit 0,tD)],0,fun n x=>HQ n x.1.2.1 x.1.2.2.1 x.2.1.1 x.2.1.2.1,[]⟩
theorem yY:tD.ok Tryz.prog hint:=Tm.cC rfl
theorem Bo:Q4.ok Tryz.prog hint:=Tm.cC rfl
theorem Sk:∀ n,aw Tryz.prog hint aI JO n:=
 aw.of (hk:=fun β=>(aq.mk [] []).hk β) (sh:=aI) (aQ.of (by kernel_rfl)) Bo ⟨⟨yY,zam _,zam _⟩,trivial⟩ (fun m=>ab.aC ab.nil m)
  (fun _=>by kernel_rfl) (fun m x=>by kernel_rfl)
noncomputable def WV (n:Nat) (g:(List (Int×(List UInt8×(List UInt8×(List Int×Bool))))×List Int)):Option (Bool×Unit):=
 Option.bind (HQ (n+1) 0 0 g.1 g.2) fun y15=>
 Option.bind (bif (aX 60 (len y15.2.1.1)) then
  some true
 else
 bif (aX 20 (len y15.2.1.2.1)) then
  some true
 else
 some (aX 400 y15.1.2.1)) fun b17=>
 some (b17,())
noncomputable def QL:aZ:=⟨8,[(true,(.cons (.cy sN) (.cy (.int .i64))))],[(false,.bool)],1,fun n x=>WV n x.1⟩
theorem US (n:Nat):az Tryz.prog hint aI QL n:=
 az.of (hk:=fun β=>(aq.mk [] [JO]).hk β) (sh:=aI) (fun m _=>ab.aC (ab.nil.loop Sk Bo) m) (fun x=>by kernel_rfl)
end Go.Proofs.YteknbnkjelmfaaaGreatDoor
