/- Plain functions for the program's. -/
import Derived.Test.YteknbnkjelmfaaaGreatDoorFa
import Derived.Test.YteknbnkjelmfaaaGreatDoorGvPlain
import Derived.Lib.ValidLaws
set_option linter.unusedSimpArgs false
set_option linter.unusedVariables false
namespace Go.Proofs.YteknbnkjelmfaaaGreatDoor
open Go Go.Iv Go.Gv
set_option maxRecDepth 100000
noncomputable def nE:Tm:=⟨[(3,.one (.int .i64))],[],64,64,1000⟩
noncomputable def FK:Tm:=⟨[(0,.one (.str)),(3,.one (.int .i64))],[],64,64,1000⟩
noncomputable def rU:Nat->(List UInt8)->Int->Option ((Int×Unit)×Unit)
 |0,_,_=>none
 |n+1,t0,t3=>
 Option.bind (bif (aX t3 (len t0)) then
  bif (au 0 t3) then
  Option.bind (t0[(Int.toNat t3)]?) fun x9=>
  bif (Nat.ble (UInt8.toNat (48:UInt8)) (UInt8.toNat x9)) then
   bif (au 0 t3) then
   Option.bind (t0[(Int.toNat t3)]?) fun x10=>
   some (Nat.ble (UInt8.toNat x10) (UInt8.toNat (57:UInt8)))
   else none
  else
  some false
  else none
  else
  some false) fun b11=>
 bif b11 then
  rU n t0 (zap (t3+1))
 else
 some ((t3,()),())
noncomputable def Au:aO:=⟨141,2,none,FK,[(.exit 0,nE)],0,fun n x=>rU n x.1.1 x.1.2.1,[]⟩
theorem rR:nE.ok Tryz.prog hint:=Tm.cC rfl
theorem tX:FK.ok Tryz.prog hint:=Tm.cC rfl
theorem Nl:∀ n,aw Tryz.prog hint aI Au n:=
 aw.of (hk:=fun β=>(aq.mk [] []).hk β) (sh:=aI) (aQ.of (by kernel_rfl)) tX ⟨⟨rR,zam _,zam _⟩,trivial⟩ (fun m=>ab.aC ab.nil m)
  (fun _=>by kernel_rfl) (fun m x=>by kernel_rfl)
noncomputable def count (n:Nat) (s:List UInt8):Option (Int×Unit):=
 Option.bind (rU (n+1) s 0) fun y12=>
 some (y12.1.1,())
noncomputable def xq:aZ:=⟨141,[(false,.str)],[(false,(.int .i64))],1,fun n x=>count n x.1⟩
theorem Hq (n:Nat):az Tryz.prog hint aI xq n:=
 az.of (hk:=fun β=>(aq.mk [] [Au]).hk β) (sh:=aI) (fun m _=>ab.aC (ab.nil.loop Nl tX) m) (fun x=>by kernel_rfl)
noncomputable def fH (_n:Nat) (s:List UInt8) (x:List UInt8):Option (Bool×Unit):=
 bif (au (len x) (len s)) then
 bif (au (len x) (len s)) then
 some (((List.take ((Int.toNat (len x)) - 0) (List.drop 0 s))==x),())
 else none
 else
 some (false,())
noncomputable def fR:aZ:=⟨132,[(false,.str),(false,.str)],[(false,.bool)],0,fun n x=>fH n x.1 x.2.1⟩
theorem jy (n:Nat):az Tryz.prog hint aI fR n:=
 az.of (hk:=fun β=>(aq.mk [] []).hk β) (sh:=aI) (fun m _=>ab.aC ab.nil m) (fun x=>by kernel_rfl)
noncomputable def hasPrefix (n:Nat) (s:List UInt8) (x:List UInt8):Option (Bool×Unit):=
 Option.bind (fH n s x) fun y0=>
 some (y0.1,())
noncomputable def gQ:aZ:=⟨111,[(false,.str),(false,.str)],[(false,.bool)],1,fun n x=>hasPrefix n x.1 x.2.1⟩
theorem kA (n:Nat):az Tryz.prog hint aI gQ n:=
 az.of (hk:=fun β=>(aq.mk [fR] []).hk β) (sh:=aI) (fun m _=>ab.aC (ab.nil.fn jy) m) (fun x=>by kernel_rfl)
noncomputable def trimPrefix (n:Nat) (s:List UInt8) (x:List UInt8):Option ((List UInt8)×Unit):=
 Option.bind (fH n s x) fun y0=>
 bif y0.1 then
 bif (au (len x) (len s)) then
 some ((List.take ((List.length s) - (Int.toNat (len x))) (List.drop (Int.toNat (len x)) s)),())
 else none
 else
 some (s,())
noncomputable def nu:aZ:=⟨164,[(false,.str),(false,.str)],[(false,.str)],1,fun n x=>trimPrefix n x.1 x.2.1⟩
theorem zJ (n:Nat):az Tryz.prog hint aI nu n:=
 az.of (hk:=fun β=>(aq.mk [fR] []).hk β) (sh:=aI) (fun m _=>ab.aC (ab.nil.fn jy) m) (fun x=>by kernel_rfl)
noncomputable def jO (n:Nat) (s:List UInt8) (x:List UInt8):Option ((List UInt8)×(Bool×Unit)):=
 Option.bind (fH n s x) fun y0=>
 bif (!y0.1) then
 some (s,false,())
 else
 bif (au (len x) (len s)) then
 some ((List.take ((List.length s) - (Int.toNat (len x))) (List.drop (Int.toNat (len x)) s)),true,())
 else none
noncomputable def pP:aZ:=⟨136,[(false,.str),(false,.str)],[(false,.str),(false,.bool)],2,fun n x=>jO n x.1 x.2.1⟩
theorem Cd (n:Nat):az Tryz.prog hint aI pP n:=
 az.of (hk:=fun β=>(aq.mk [fR] []).hk β) (sh:=aI) (fun m _=>ab.aC (ab.nil.fn jy) m) (fun x=>by kernel_rfl)
noncomputable def signed (n:Nat) (s:List UInt8):Option ((List UInt8)×(Bool×Unit)):=
 Option.bind (hasPrefix (n+1) s ([45]:List UInt8)) fun y0=>
 bif y0.1 then
 bif (au 1 (len s)) then
 some ((List.take ((List.length s) - 1) (List.drop 1 s)),true,())
 else none
 else
 Option.bind (trimPrefix n s ([43]:List UInt8)) fun y1=>
 some (y1.1,false,())
noncomputable def jJ:aZ:=⟨137,[(false,.str)],[(false,.str),(false,.bool)],3,fun n x=>signed n x.1⟩
theorem mS (n:Nat):az Tryz.prog hint aI jJ n:=
 az.of (hk:=fun β=>(aq.mk [nu,gQ] []).hk β) (sh:=aI) (fun m _=>ab.aC ((ab.nil.fn kA).fn zJ) m) (fun x=>by kernel_rfl)
noncomputable def nr:Tm:=⟨[(0,.one (.str))],[],64,64,1000⟩
noncomputable def G5:Tm:=⟨[(0,.one (.str)),(1,.one (.byte))],[],64,64,1000⟩
noncomputable def wb:Nat->(List UInt8)->UInt8->Option (((List UInt8)×Unit)×Unit)
 |0,_,_=>none
 |n+1,t0,t1=>
 Option.bind (bif (aX 0 (len t0)) then
  Option.bind (t0[0]?) fun x7=>
  some (x7==t1)
  else
  some false) fun b8=>
 bif b8 then
  bif (au 1 (len t0)) then
  wb n (List.take ((List.length t0) - 1) (List.drop 1 t0)) t1
  else none
 else
 some ((t0,()),())
noncomputable def AS:aO:=⟨175,1,none,G5,[(.exit 0,nr)],0,fun n x=>wb n x.1.1 x.1.2.1,[]⟩
theorem rZ:nr.ok Tryz.prog hint:=Tm.cC rfl
theorem tw:G5.ok Tryz.prog hint:=Tm.cC rfl
theorem LA:∀ n,aw Tryz.prog hint aI AS n:=
 aw.of (hk:=fun β=>(aq.mk [] []).hk β) (sh:=aI) (aQ.of (by kernel_rfl)) tw ⟨⟨rZ,zam _,zam _⟩,trivial⟩ (fun m=>ab.aC ab.nil m)
  (fun _=>by kernel_rfl) (fun m x=>by kernel_rfl)
noncomputable def fh (n:Nat) (s:List UInt8) (c:UInt8):Option ((List UInt8)×Unit):=
 Option.bind (wb (n+1) s c) fun y9=>
 some (y9.1.1,())
noncomputable def gE:aZ:=⟨175,[(false,.str),(false,.byte)],[(false,.str)],1,fun n x=>fh n x.1 x.2.1⟩
theorem la (n:Nat):az Tryz.prog hint aI gE n:=
 az.of (hk:=fun β=>(aq.mk [] [AS]).hk β) (sh:=aI) (fun m _=>ab.aC (ab.nil.loop LA tw) m) (fun x=>by kernel_rfl)
noncomputable def nj:Tm:=⟨[(0,.one (.str))],[],64,64,1000⟩
noncomputable def GZ:Tm:=⟨[(0,.one (.str)),(1,.one (.byte))],[],64,64,1000⟩
noncomputable def wW:Nat->(List UInt8)->UInt8->Option (((List UInt8)×Unit)×Unit)
 |0,_,_=>none
 |n+1,t0,t1=>
 Option.bind (bif (aX 0 (len t0)) then
  bif (au 0 (zap ((len t0) - 1))) then
  Option.bind (t0[(Int.toNat (zap ((len t0) - 1)))]?) fun x7=>
  some (x7==t1)
  else none
  else
  some false) fun b8=>
 bif b8 then
  bif ((au 0 (zap ((len t0) - 1))) &&(au (zap ((len t0) - 1)) (len t0))) then
  wW n (List.take ((Int.toNat (zap ((len t0) - 1))) - 0) (List.drop 0 t0)) t1
  else none
 else
 some ((t0,()),())
noncomputable def Aq:aO:=⟨179,1,none,GZ,[(.exit 0,nj)],0,fun n x=>wW n x.1.1 x.1.2.1,[]⟩
theorem rF:nj.ok Tryz.prog hint:=Tm.cC rfl
theorem tE:GZ.ok Tryz.prog hint:=Tm.cC rfl
theorem Mk:∀ n,aw Tryz.prog hint aI Aq n:=
 aw.of (hk:=fun β=>(aq.mk [] []).hk β) (sh:=aI) (aQ.of (by kernel_rfl)) tE ⟨⟨rF,zam _,zam _⟩,trivial⟩ (fun m=>ab.aC ab.nil m)
  (fun _=>by kernel_rfl) (fun m x=>by kernel_rfl)
noncomputable def dG (n:Nat) (s:List UInt8) (c:UInt8):Option ((List UInt8)×Unit):=
 Option.bind (wW (n+1) s c) fun y9=>
 some (y9.1.1,())
noncomputable def jL:aZ:=⟨179,[(false,.str),(false,.byte)],[(false,.str)],1,fun n x=>dG n x.1 x.2.1⟩
theorem se (n:Nat):az Tryz.prog hint aI jL n:=
 az.of (hk:=fun β=>(aq.mk [] [Aq]).hk β) (sh:=aI) (fun m _=>ab.aC (ab.nil.loop Mk tE) m) (fun x=>by kernel_rfl)
noncomputable def whole (n:Nat) (below:Bool) (d:List UInt8) (exp:Int):Option ((Bool×(List UInt8×(Int×Int)))×Unit):=
 Option.bind (bif (d==([]:List UInt8)) then
  some true
 else
 some false) fun b1=>
 bif b1 then
 Option.bind (bif (d==([]:List UInt8)) then
  some true
  else
  some false) fun b3=>
 bif b3 then
  bif (d==([]:List UInt8)) then
  some ((below,(([48]:List UInt8),(0,0))),())
  else
  some ((below,(d,((zap ((zap (exp+(len d))) - (len d))),0))),())
 else
 Option.bind (dG n d (48:UInt8)) fun y5=>
 bif (y5.1==([]:List UInt8)) then
  some ((below,(([48]:List UInt8),(0,0))),())
 else
 some ((below,(y5.1,((zap ((zap (exp+(len d))) - (len y5.1))),0))),())
 else
 Option.bind (fh n d (48:UInt8)) fun y7=>
 Option.bind (bif (y7.1==([]:List UInt8)) then
  some true
 else
 some false) fun b9=>
 bif b9 then
 bif (y7.1==([]:List UInt8)) then
  some ((below,(([48]:List UInt8),(0,0))),())
 else
 some ((below,(y7.1,((zap ((zap (exp+(len y7.1))) - (len y7.1))),0))),())
 else
 Option.bind (dG n y7.1 (48:UInt8)) fun y11=>
 bif (y11.1==([]:List UInt8)) then
 some ((below,(([48]:List UInt8),(0,0))),())
 else
 some ((below,(y11.1,((zap ((zap (exp+(len y7.1))) - (len y11.1))),0))),())
noncomputable def wg:aZ:=⟨139,[(false,.bool),(false,.str),(false,(.int .i64))],[(true,(.cons .bool (.cons .str (.cons (.int .i64) (.int .i64)))))],3,fun n x=>whole n x.1 x.2.1 x.2.2.1⟩
theorem FW (n:Nat):az Tryz.prog hint aI wg n:=
 az.of (hk:=fun β=>(aq.mk [gE,jL] []).hk β) (sh:=aI) (fun m _=>ab.aC ((ab.nil.fn se).fn la) m) (fun x=>by kernel_rfl)
noncomputable def nN:Tm:=⟨[(7,.one (.all 64 3 (.int .i64) .ex))],[],64,65,1000⟩
noncomputable def EP:Tm:=⟨[(0,.one (.aT (.int .i64))),(1,.one (.int .i64)),(2,.one (.int .i64)),(7,.one (.all 64 3 (.int .i64) .ex)),(8,.one (.int .i64))],[],64,65,1000⟩
noncomputable def gA:Nat->(List Int)->Int->Int->(List Int)->Int->Option (((List Int)×Unit)×Unit)
 |0,_,_,_,_,_=>none
 |n+1,t0,t1,t2,t7,t8=>
 Option.bind (bif (aX t8 (len t0)) then
  some true
  else
  some (aX 0 t2)) fun b10=>
 bif b10 then
  bif (aX t8 (len t0)) then
  bif (au 0 t8) then
  Option.bind (t0[(Int.toNat t8)]?) fun x11=>
  bif (room (((List.length t7)+(List.length ((Int.tmod (zap (t2+(zap (x11*t1)))) 10)::([]:List Int))))*9)) then
  gA n t0 t1 (zap (Int.tdiv (zap (t2+(zap (x11*t1)))) 10)) (t7++((Int.tmod (zap (t2+(zap (x11*t1)))) 10)::([]:List Int))) (zap (t8+1))
  else none
  else none
  else
  bif (room (((List.length t7)+(List.length ((Int.tmod (zap (t2+(zap (0*t1)))) 10)::([]:List Int))))*9)) then
  gA n t0 t1 (zap (Int.tdiv (zap (t2+(zap (0*t1)))) 10)) (t7++((Int.tmod (zap (t2+(zap (0*t1)))) 10)::([]:List Int))) (zap (t8+1))
  else none
 else
 some ((t7,()),())
noncomputable def A0:aO:=⟨158,3,none,EP,[(.exit 0,nN)],1,fun n x=>gA n x.1.1 x.1.2.1 x.1.2.2.1 x.1.2.2.2.1 x.1.2.2.2.2.1,[]⟩
theorem rQ:nN.ok Tryz.prog hint:=Tm.cC rfl
theorem tq:EP.ok Tryz.prog hint:=Tm.cC rfl
theorem Mh:∀ n,aw Tryz.prog hint aI A0 n:=
 aw.of (hk:=fun β=>(aq.mk [] []).hk β) (sh:=aI) (aQ.of (by kernel_rfl)) tq ⟨⟨rQ,zam _,zam _⟩,trivial⟩ (fun m=>ab.aC ab.nil m)
  (fun _=>by kernel_rfl) (fun m x=>by kernel_rfl)
noncomputable def times (n:Nat) (l:List Int) (k:Int) (more:Int):Option ((List Int)×Unit):=
 Option.bind (gA n l k more ([]:List Int) 0) fun y12=>
 some (y12.1.1,())
noncomputable def GK:aZ:=⟨158,[(false,(.cy (.int .i64))),(false,(.int .i64)),(false,(.int .i64))],[(false,(.cy (.int .i64)))],1,fun n x=>times n x.1 x.2.1 x.2.2.1⟩
theorem Re (n:Nat):az Tryz.prog hint aI GK n:=
 az.of (hk:=fun β=>(aq.mk [] [A0]).hk β) (sh:=aI) (fun m _=>ab.aC (ab.nil.loop Mh tq) m) (fun x=>by kernel_rfl)
noncomputable def nz:Tm:=⟨[(3,.one (.all 64 3 (.int .i64) .ex))],[],64,65,1000⟩
noncomputable def tR:Tm:=⟨[(2,.one (.fix (TV.raw (Go.Value.slice (Option.none) 0 0))))],[],64,64,1000⟩
noncomputable def Gq:Tm:=⟨[(0,.one (.str)),(3,.one (.all 64 3 (.int .i64) .ex)),(4,.one (.int .i64))],[],64,65,1000⟩
noncomputable def rY:Nat->(List UInt8)->(List Int)->Int->Option ((((List Int)×Unit)×Unit)⊕((Unit×Unit)×Unit))
 |0,_,_,_=>none
 |n+1,t0,t3,t4=>
 bif (au 0 t4) then
  bif (au 0 t4) then
  Option.bind (t0[(Int.toNat t4)]?) fun x9=>
  Option.bind (bif (aX (zap ((zap (ub x9)) - 48)) 0) then
   some true
  else
  some (au 10 (zap ((zap (ub x9)) - 48)))) fun b11=>
  bif b11 then
  some (.inr (((),()),()))
  else
  bif (room (((List.length t3)+(List.length ((zap ((zap (ub x9)) - 48))::([]:List Int))))*9)) then
  rY n t0 (t3++((zap ((zap (ub x9)) - 48))::([]:List Int))) (zap (t4 - 1))
  else none
  else none
 else
 some (.inl ((t3,()),()))
noncomputable def BA:aO:=⟨159,5,none,Gq,[(.exit 0,nz),(.ret,tR)],0,fun n x=>rY n x.1.1 x.1.2.1 x.1.2.2.1,[]⟩
theorem rP:nz.ok Tryz.prog hint:=Tm.cC rfl
theorem w8:tR.ok Tryz.prog hint:=Tm.cC rfl
theorem sY:Gq.ok Tryz.prog hint:=Tm.cC rfl
theorem Ng:∀ n,aw Tryz.prog hint aI BA n:=
 aw.of (hk:=fun β=>(aq.mk [] []).hk β) (sh:=aI) (aQ.of (by kernel_rfl)) sY ⟨⟨rP,zam _,zam _⟩,⟨w8,zam _,zam _⟩,trivial⟩ (fun m=>ab.aC ab.nil m)
  (fun _=>by kernel_rfl) (fun m x=>by kernel_rfl)
noncomputable def of (n:Nat) (s:List UInt8):Option ((List Int)×Unit):=
 bif (aX 5000 (len s)) then
 some (([]:List Int),())
 else
 Option.bind (rY (n+1) s ([]:List Int) (zap ((len s) - 1))) fun y12=>
 match y12 with
 | .inl y13=>
  some (y13.1.1,())
 | .inr _=>
  some (([]:List Int),())
noncomputable def T3:aZ:=⟨159,[(false,.str)],[(false,(.cy (.int .i64)))],1,fun n x=>of n x.1⟩
theorem sX (n:Nat):az Tryz.prog hint aI T3 n:=
 az.of (hk:=fun β=>(aq.mk [] [BA]).hk β) (sh:=aI) (fun m _=>ab.aC (ab.nil.loop Ng sY) m) (fun x=>by kernel_rfl)
noncomputable def nk:Tm:=⟨[(3,.one (.fix (TV.ptr 64 0)))],[(64,.cells 169 [.fix (TV.ptr 64 0),.all 67 5 .byte .ex] true)],67,68,1005⟩
noncomputable def Fq:Tm:=⟨[(0,.one (.aT (.int .i64))),(3,.one (.fix (TV.ptr 64 0))),(4,.one (.int .i64))],[(64,.cells 169 [.fix (TV.ptr 64 0),.all 67 5 .byte .ex] true)],67,68,1005⟩
noncomputable def si:Nat->(List Int)->Int->(List UInt8)->Option ((Unit×Unit)×((Unit×((List UInt8)×Unit))×Unit))
 |0,_,_,_=>none
 |n+1,t0,t4,c64_1=>
 bif (au 0 t4) then
  bif (au 0 t4) then
  Option.bind (t0[(Int.toNat t4)]?) fun x3=>
  bif (room (((List.length c64_1)+(List.length ((UInt8.ofNat (Int.toNat (IntKind.wrap Go.IntKind.u8 (zap (48+x3)))))::([]:List UInt8))))*2)) then
  si n t0 (zap (t4 - 1)) (c64_1++((UInt8.ofNat (Int.toNat (IntKind.wrap Go.IntKind.u8 (zap (48+x3)))))::([]:List UInt8)))
  else none
  else none
 else
 some (((),()),(((),(c64_1,())),()))
noncomputable def AO:aO:=⟨160,3,none,Fq,[(.exit 0,nk)],2,fun n x=>si n x.1.1 x.1.2.2.1 x.2.1.2.1,[65]⟩
theorem rX:nk.ok Tryz.prog hint:=Tm.cC rfl
theorem tB:Fq.ok Tryz.prog hint:=Tm.cC rfl
theorem Mo:∀ n,aw Tryz.prog hint aI AO n:=
 aw.of (hk:=fun β=>(aq.mk [] []).hk β) (sh:=aI) (aQ.of (by kernel_rfl)) tB ⟨⟨rX,zam _,zam _⟩,trivial⟩ (fun m=>ab.aC ab.nil m)
  (fun _=>by kernel_rfl) (fun m x=>by kernel_rfl)
noncomputable def text (n:Nat) (l:List Int):Option ((List UInt8)×Unit):=
 bif (au 0 (zap ((len l) - 1))) then
 bif (au 0 (zap ((len l) - 1))) then
 Option.bind (l[(Int.toNat (zap ((len l) - 1)))]?) fun x0=>
 Option.bind (si n l (zap ((zap ((len l) - 1)) - 1)) ((UInt8.ofNat (Int.toNat (IntKind.wrap Go.IntKind.u8 (zap (48+x0)))))::([]:List UInt8))) fun y4=>
 bif (List.isEmpty y4.2.1.2.1) then
  bif ((len y4.2.1.2.1)==0) then
  some (([48]:List UInt8),())
  else none
 else
 bif ((au (len y4.2.1.2.1) (len y4.2.1.2.1)) &&(au (len y4.2.1.2.1) 1099511627776)) then
 Option.bind (bif ((List.take (Int.toNat (len y4.2.1.2.1)) y4.2.1.2.1)==([]:List UInt8)) then
  some true
  else
  some false) fun b7=>
 bif b7 then
  bif (!((List.take (Int.toNat (len y4.2.1.2.1)) y4.2.1.2.1)==([]:List UInt8))) then
  some ((List.take (Int.toNat (len y4.2.1.2.1)) y4.2.1.2.1),())
  else
  some (([48]:List UInt8),())
 else
 Option.bind (fh n (List.take (Int.toNat (len y4.2.1.2.1)) y4.2.1.2.1) (48:UInt8)) fun y9=>
 bif (!(y9.1==([]:List UInt8))) then
  some (y9.1,())
 else
 some (([48]:List UInt8),())
 else none
 else none
 else
 some (([48]:List UInt8),())
noncomputable def Lc:aZ:=⟨160,[(false,(.cy (.int .i64)))],[(false,.str)],3,fun n x=>text n x.1⟩
theorem RU (n:Nat):az Tryz.prog hint aI Lc n:=
 az.of (hk:=fun β=>(aq.mk [gE] [AO]).hk β) (sh:=aI) (fun m _=>ab.aC ((ab.nil.loop Mo tB).fn la) m) (fun x=>by kernel_rfl)
noncomputable def nx:Tm:=⟨[(0,.one (.str)),(1,.one (.int .i64)),(6,.one (.aT (.int .i64)))],[],64,64,1000⟩
noncomputable def tA:Tm:=⟨[(4,.one (.str)),(5,.one (.bool))],[],64,64,1000⟩
noncomputable def EH:Tm:=⟨[(0,.one (.str)),(1,.one (.int .i64)),(6,.one (.aT (.int .i64))),(30,.one (.aT .byte)),(31,.one (.int .i64)),(32,.one (.int .i64))],[],64,64,1000⟩
noncomputable def jw:Nat->(List UInt8)->Int->(List Int)->(List UInt8)->Int->Int->Option ((((List UInt8)×(Int×((List Int)×Unit)))×Unit)⊕(((List UInt8)×(Bool×Unit))×Unit))
 |0,_,_,_,_,_,_=>none
 |n+1,t0,t1,t6,t30,t31,t32=>
 bif (aX t32 t31) then
  bif (au 0 t32) then
  Option.bind (t30[(Int.toNat t32)]?) fun x17=>
  Option.bind (hex (n+1) (zap (ub x17))) fun y18=>
  Option.bind (bif (aX y18.1 0) then
   some true
  else
  some (au t1 y18.1)) fun b20=>
  bif b20 then
  some (.inr ((([]:List UInt8),(false,())),()))
  else
  bif (t1 !=10) then
  Option.bind (times (n+1) t6 t1 y18.1) fun y21=>
  jw n t0 t1 y21.1 t30 t31 (zap (t32+1))
  else
  jw n t0 t1 t6 t30 t31 (zap (t32+1))
  else none
 else
 some (.inl ((t0,(t1,(t6,()))),()))
noncomputable def AQ:aO:=⟨138,5,none,EH,[(.exit 0,nx),(.ret,tA)],2,fun n x=>jw n x.1.1 x.1.2.1 x.1.2.2.1 x.1.2.2.2.1 x.1.2.2.2.2.1 x.1.2.2.2.2.2.1,[]⟩
theorem rB:nx.ok Tryz.prog hint:=Tm.cC rfl
theorem wX:tA.ok Tryz.prog hint:=Tm.cC rfl
theorem ua:EH.ok Tryz.prog hint:=Tm.cC rfl
theorem ND:∀ n,aw Tryz.prog hint aI AQ n:=
 aw.of (hk:=fun β=>(aq.mk [GK,Jt] []).hk β) (sh:=aI) (aQ.of (by kernel_rfl)) ua ⟨⟨rB,zam _,zam _⟩,⟨wX,zam _,zam _⟩,trivial⟩ (fun m=>ab.aC ((ab.nil.fn Oi).fn Re) m)
  (fun _=>by kernel_rfl) (fun m x=>by kernel_rfl)
noncomputable def plain (n:Nat) (s:List UInt8) (base:Int):Option ((List UInt8)×(Bool×Unit)):=
 Option.bind (bif (s==([]:List UInt8)) then
  some true
 else
 bif (aX 5000 (len s)) then
  some true
 else
 bif (base !=8) then
  bif (base !=10) then
  some (base !=16)
  else
  some false
 else
 some false) fun b1=>
 bif b1 then
 some (([]:List UInt8),false,())
 else
 Option.bind (jw (n+2) s base ([]:List Int) s (len s) 0) fun y22=>
 match y22 with
 | .inl y23=>
  bif (y23.1.2.1==10) then
  Option.bind (of (n+2) y23.1.1) fun y25=>
  Option.bind (text n y25.1) fun y26=>
  some (y26.1,true,())
  else
  Option.bind (text n y23.1.2.2.1) fun y27=>
  some (y27.1,true,())
 | .inr y24=>
  some (y24.1.1,y24.1.2.1,())
noncomputable def EA:aZ:=⟨138,[(false,.str),(false,(.int .i64))],[(false,.str),(false,.bool)],4,fun n x=>plain n x.1 x.2.1⟩
theorem O1 (n:Nat):az Tryz.prog hint aI EA n:=
 az.of (hk:=fun β=>(aq.mk [Lc,T3] [AQ]).hk β) (sh:=aI) (fun m _=>ab.aC (((ab.nil.loop ND ua).fn sX).fn RU) m) (fun x=>by kernel_rfl)
noncomputable def int (n:Nat) (s:List UInt8):Option ((Bool×(List UInt8×(Int×Int)))×(Bool×Unit)):=
 Option.bind (jO (n+2) s ([48,111]:List UInt8)) fun y0=>
 bif y0.2.1 then
 Option.bind (plain n y0.1 8) fun y1=>
 bif (!y1.2.1) then
  some ((false,(([]:List UInt8),(0,0))),false,())
 else
 Option.bind (whole (n+1) false y1.1 0) fun y2=>
 bif y2.1.1 then
  some (((!(y2.1.2.1==([48]:List UInt8))),(y2.1.2.1,(y2.1.2.2.1,y2.1.2.2.2))),true,())
 else
 some ((false,(y2.1.2.1,(y2.1.2.2.1,y2.1.2.2.2))),true,())
 else
 Option.bind (jO (n+2) s ([48,120]:List UInt8)) fun y3=>
 bif y3.2.1 then
 Option.bind (plain n y3.1 16) fun y4=>
 bif (!y4.2.1) then
  some ((false,(([]:List UInt8),(0,0))),false,())
 else
 Option.bind (whole (n+1) false y4.1 0) fun y5=>
 bif y5.1.1 then
  some (((!(y5.1.2.1==([48]:List UInt8))),(y5.1.2.1,(y5.1.2.2.1,y5.1.2.2.2))),true,())
 else
 some ((false,(y5.1.2.1,(y5.1.2.2.1,y5.1.2.2.2))),true,())
 else
 Option.bind (signed (n+1) s) fun y6=>
 Option.bind (plain n y6.1 10) fun y7=>
 bif (!y7.2.1) then
 some ((false,(([]:List UInt8),(0,0))),false,())
 else
 Option.bind (whole (n+1) y6.2.1 y7.1 0) fun y8=>
 bif y8.1.1 then
 some (((!(y8.1.2.1==([48]:List UInt8))),(y8.1.2.1,(y8.1.2.2.1,y8.1.2.2.2))),true,())
 else
 some ((false,(y8.1.2.1,(y8.1.2.2.1,y8.1.2.2.2))),true,())
noncomputable def Qk:aZ:=⟨116,[(false,.str)],[(true,(.cons .bool (.cons .str (.cons (.int .i64) (.int .i64))))),(false,.bool)],5,fun n x=>int n x.1⟩
theorem Vl (n:Nat):az Tryz.prog hint aI Qk n:=
 az.of (hk:=fun β=>(aq.mk [jJ,wg,EA,pP] []).hk β) (sh:=aI) (fun m _=>ab.aC ((((ab.nil.fn Cd).fn O1).fn FW).fn mS) m) (fun x=>by kernel_rfl)
set_option maxRecDepth 100000
noncomputable def lP:Tm:=⟨[(5,.one (.str)),(6,.one (.int .i64))],[],64,64,1000⟩
noncomputable def BL:Tm:=⟨[(5,.one (.str)),(6,.one (.int .i64)),(47,.one (.aT .byte)),(48,.one (.int .i64)),(49,.one (.int .i64))],[],64,64,1000⟩
noncomputable def jd:Nat->(List UInt8)->Int->(List UInt8)->Int->Int->Option (((List UInt8)×(Int×Unit))×Unit)
 |0,_,_,_,_,_=>none
 |n+1,t5,t6,t47,t48,t49=>
 bif (aX t49 t48) then
  bif (au 0 t49) then
  Option.bind (t47[(Int.toNat t49)]?) fun x14=>
  bif (Nat.blt (UInt8.toNat (9:UInt8)) (UInt8.toNat (x14 - (48:UInt8)))) then
  none
  else
  jd n t5 (zap ((zap (t6*10))+(zap (ub (x14 - (48:UInt8)))))) t47 t48 (zap (t49+1))
  else none
 else
 some ((t5,(t6,())),())
noncomputable def vJ:aO:=⟨182,10,none,BL,[(.exit 0,lP)],0,fun n x=>jd n x.1.1 x.1.2.1 x.1.2.2.1 x.1.2.2.2.1 x.1.2.2.2.2.1,[]⟩
theorem qP:lP.ok Tryz.prog hint:=Tm.cC rfl
theorem p9:BL.ok Tryz.prog hint:=Tm.cC rfl
theorem It:∀ n,aw Tryz.prog hint aI vJ n:=
 aw.of (hk:=fun β=>(aq.mk [] []).hk β) (sh:=aI) (aQ.of (by kernel_rfl)) p9 ⟨⟨qP,zam _,zam _⟩,trivial⟩ (fun m=>ab.aC ab.nil m)
  (fun _=>by kernel_rfl) (fun m x=>by kernel_rfl)
noncomputable def exponent (n:Nat) (s:List UInt8):Option (Int×(Bool×Unit)):=
 bif (s==([]:List UInt8)) then
 some (0,true,())
 else
 Option.bind (Option.bind (s[0]?) fun x1=>
 bif (x1 !=(101:UInt8)) then
  Option.bind (s[0]?) fun x2=>
  some (x2 !=(69:UInt8))
 else
 some false) fun b3=>
 bif b3 then
 some (0,false,())
 else
 bif (au 1 (len s)) then
 Option.bind (signed n (List.take ((List.length s) - 1) (List.drop 1 s))) fun y4=>
 bif (y4.1==([]:List UInt8)) then
 some (0,false,())
 else
 bif (aX 9 (len y4.1)) then
 some (0,false,())
 else
 Option.bind (count (n+2) y4.1) fun y5=>
 bif (y5.1 !=(len y4.1)) then
 some (0,false,())
 else
 Option.bind (bif (aX 0 (len y4.1)) then
  some (aX (len y4.1) 19)
 else
 some false) fun b7=>
 bif b7 then
 Option.bind (Option.bind (y4.1[0]?) fun x9=>
  bif (x9==(45:UInt8)) then
  some true
  else
  Option.bind (y4.1[0]?) fun x10=>
  some (x10==(43:UInt8))) fun b11=>
 bif b11 then
  bif (au 1 (len y4.1)) then
  bif (aX (len (List.take ((List.length y4.1) - 1) (List.drop 1 y4.1))) 1) then
  none
  else
  Option.bind (jd (n+2) y4.1 0 (List.take ((List.length y4.1) - 1) (List.drop 1 y4.1)) (len (List.take ((List.length y4.1) - 1) (List.drop 1 y4.1))) 0) fun y15=>
  Option.bind (y15.1.1[0]?) fun x16=>
  bif (x16==(45:UInt8)) then
  bif y4.2.1 then
   some ((zap (0 - (zap (0 - y15.1.2.1)))),true,())
  else
  some ((zap (0 - y15.1.2.1)),true,())
  else
  bif y4.2.1 then
  some ((zap (0 - y15.1.2.1)),true,())
  else
  some (y15.1.2.1,true,())
  else none
 else
 Option.bind (jd (n+2) y4.1 0 y4.1 (len y4.1) 0) fun y17=>
 Option.bind (y17.1.1[0]?) fun x18=>
 bif (x18==(45:UInt8)) then
  bif y4.2.1 then
  some ((zap (0 - (zap (0 - y17.1.2.1)))),true,())
  else
  some ((zap (0 - y17.1.2.1)),true,())
 else
 bif y4.2.1 then
  some ((zap (0 - y17.1.2.1)),true,())
 else
 some (y17.1.2.1,true,())
 else
 none
 else none
noncomputable def ue:aZ:=⟨142,[(false,.str)],[(false,(.int .i64)),(false,.bool)],4,fun n x=>exponent n x.1⟩
theorem EV (n:Nat):az Tryz.prog hint aI ue n:=
 az.of (hk:=fun β=>(aq.mk [xq,jJ] [vJ]).hk β) (sh:=aI) (fun m _=>ab.aC (((ab.nil.fn mS).fn Hq).loop It p9) m) (fun x=>by kernel_rfl)
noncomputable def named (n:Nat) (s:List UInt8):Option ((Bool×(List UInt8×(Int×Int)))×(Bool×Unit)):=
 bif (s==([46,110,97,110]:List UInt8)) then
 some ((false,(([]:List UInt8),(0,2))),true,())
 else
 bif (s==([46,78,97,78]:List UInt8)) then
 some ((false,(([]:List UInt8),(0,2))),true,())
 else
 bif (s==([46,78,65,78]:List UInt8)) then
 some ((false,(([]:List UInt8),(0,2))),true,())
 else
 Option.bind (signed n s) fun y0=>
 bif (y0.1==([46,105,110,102]:List UInt8)) then
 some ((y0.2.1,(([]:List UInt8),(0,1))),true,())
 else
 bif (y0.1==([46,73,110,102]:List UInt8)) then
 some ((y0.2.1,(([]:List UInt8),(0,1))),true,())
 else
 bif (y0.1==([46,73,78,70]:List UInt8)) then
 some ((y0.2.1,(([]:List UInt8),(0,1))),true,())
 else
 some ((false,(([]:List UInt8),(0,0))),false,())
noncomputable def Ek:aZ:=⟨140,[(false,.str)],[(true,(.cons .bool (.cons .str (.cons (.int .i64) (.int .i64))))),(false,.bool)],4,fun n x=>named n x.1⟩
theorem Ro (n:Nat):az Tryz.prog hint aI Ek n:=
 az.of (hk:=fun β=>(aq.mk [jJ] []).hk β) (sh:=aI) (fun m _=>ab.aC (ab.nil.fn mS) m) (fun x=>by kernel_rfl)
noncomputable def float (n:Nat) (s:List UInt8):Option ((Bool×(List UInt8×(Int×Int)))×(Bool×Unit)):=
 Option.bind (named n s) fun y0=>
 bif y0.2.1 then
 some ((y0.1.1,(y0.1.2.1,(y0.1.2.2.1,y0.1.2.2.2))),true,())
 else
 Option.bind (signed (n+1) s) fun y1=>
 Option.bind (count (n+3) y1.1) fun y2=>
 bif ((au 0 y2.1) &&(au y2.1 (len y1.1))) then
 bif ((au 0 y2.1) &&(au y2.1 (len y1.1))) then
 Option.bind (hasPrefix (n+3) (List.take ((List.length y1.1) - (Int.toNat y2.1)) (List.drop (Int.toNat y2.1) y1.1)) ([46]:List UInt8)) fun y3=>
 bif y3.1 then
 bif (au 1 (len (List.take ((List.length y1.1) - (Int.toNat y2.1)) (List.drop (Int.toNat y2.1) y1.1)))) then
 Option.bind (count (n+3) (List.take ((List.length (List.take ((List.length y1.1) - (Int.toNat y2.1)) (List.drop (Int.toNat y2.1) y1.1))) - 1) (List.drop 1 (List.take ((List.length y1.1) - (Int.toNat y2.1)) (List.drop (Int.toNat y2.1) y1.1))))) fun y4=>
 bif ((au 0 (zap (1+y4.1))) &&(au (zap (1+y4.1)) (len (List.take ((List.length y1.1) - (Int.toNat y2.1)) (List.drop (Int.toNat y2.1) y1.1))))) then
 bif (au 1 (((Int.toNat (zap (1+y4.1))):Nat):Int)) then
 bif ((au 0 (zap (1+y4.1))) &&(au (zap (1+y4.1)) (len (List.take ((List.length y1.1) - (Int.toNat y2.1)) (List.drop (Int.toNat y2.1) y1.1))))) then
 Option.bind (exponent n (List.take ((List.length (List.take ((List.length y1.1) - (Int.toNat y2.1)) (List.drop (Int.toNat y2.1) y1.1))) - (Int.toNat (zap (1+y4.1)))) (List.drop (Int.toNat (zap (1+y4.1))) (List.take ((List.length y1.1) - (Int.toNat y2.1)) (List.drop (Int.toNat y2.1) y1.1))))) fun y5=>
 Option.bind (bif (!y5.2.1) then
  some true
  else
  bif ((List.take ((Int.toNat y2.1) - 0) (List.drop 0 y1.1))==([]:List UInt8)) then
  bif ((List.take ((Int.toNat (zap (1+y4.1))) - 1) (List.drop 1 (List.take ((List.length y1.1) - (Int.toNat y2.1)) (List.drop (Int.toNat y2.1) y1.1))))==([]:List UInt8)) then
   some true
  else
  some (aX 5000 (zap ((len (List.take ((Int.toNat y2.1) - 0) (List.drop 0 y1.1)))+(len (List.take ((Int.toNat (zap (1+y4.1))) - 1) (List.drop 1 (List.take ((List.length y1.1) - (Int.toNat y2.1)) (List.drop (Int.toNat y2.1) y1.1))))))))
  else
  some (aX 5000 (zap ((len (List.take ((Int.toNat y2.1) - 0) (List.drop 0 y1.1)))+(len (List.take ((Int.toNat (zap (1+y4.1))) - 1) (List.drop 1 (List.take ((List.length y1.1) - (Int.toNat y2.1)) (List.drop (Int.toNat y2.1) y1.1))))))))) fun b7=>
 bif b7 then
  some ((false,(([]:List UInt8),(0,0))),false,())
 else
 bif (room ((List.length (List.take ((Int.toNat y2.1) - 0) (List.drop 0 y1.1)))+(List.length (List.take ((Int.toNat (zap (1+y4.1))) - 1) (List.drop 1 (List.take ((List.length y1.1) - (Int.toNat y2.1)) (List.drop (Int.toNat y2.1) y1.1))))))) then
 Option.bind (whole (n+1) y1.2.1 ((List.take ((Int.toNat y2.1) - 0) (List.drop 0 y1.1))++(List.take ((Int.toNat (zap (1+y4.1))) - 1) (List.drop 1 (List.take ((List.length y1.1) - (Int.toNat y2.1)) (List.drop (Int.toNat y2.1) y1.1))))) (zap (y5.1 - (len (List.take ((Int.toNat (zap (1+y4.1))) - 1) (List.drop 1 (List.take ((List.length y1.1) - (Int.toNat y2.1)) (List.drop (Int.toNat y2.1) y1.1)))))))) fun y8=>
 some ((y8.1.1,(y8.1.2.1,(y8.1.2.2.1,y8.1.2.2.2))),true,())
 else none
 else none
 else none
 else none
 else none
 else
 Option.bind (exponent n (List.take ((List.length y1.1) - (Int.toNat y2.1)) (List.drop (Int.toNat y2.1) y1.1))) fun y9=>
 Option.bind (bif (!y9.2.1) then
  some true
 else
 bif ((List.take ((Int.toNat y2.1) - 0) (List.drop 0 y1.1))==([]:List UInt8)) then
  some true
 else
 some (aX 5000 (zap ((len (List.take ((Int.toNat y2.1) - 0) (List.drop 0 y1.1)))+0)))) fun b11=>
 bif b11 then
 some ((false,(([]:List UInt8),(0,0))),false,())
 else
 bif (room ((List.length (List.take ((Int.toNat y2.1) - 0) (List.drop 0 y1.1)))+(List.length ([]:List UInt8)))) then
 Option.bind (whole (n+1) y1.2.1 ((List.take ((Int.toNat y2.1) - 0) (List.drop 0 y1.1))++([]:List UInt8)) (zap (y9.1 - 0))) fun y12=>
 some ((y12.1.1,(y12.1.2.1,(y12.1.2.2.1,y12.1.2.2.2))),true,())
 else none
 else none
 else none
noncomputable def G4:aZ:=⟨117,[(false,.str)],[(true,(.cons .bool (.cons .str (.cons (.int .i64) (.int .i64))))),(false,.bool)],5,fun n x=>float n x.1⟩
theorem PQ (n:Nat):az Tryz.prog hint aI G4 n:=
 az.of (hk:=fun β=>(aq.mk [wg,ue,gQ,xq,jJ,Ek] []).hk β) (sh:=aI) (fun m _=>ab.aC ((((((ab.nil.fn Ro).fn mS).fn Hq).fn kA).fn EV).fn FW) m) (fun x=>by kernel_rfl)
noncomputable def J1 (_n:Nat) (s:List UInt8):Option (Bool×Unit):=
 Option.bind (bif (s==([]:List UInt8)) then
  some true
 else
 bif (s==([126]:List UInt8)) then
  some true
 else
 bif (s==([110,117,108,108]:List UInt8)) then
  some true
 else
 bif (s==([78,117,108,108]:List UInt8)) then
  some true
 else
 some (s==([78,85,76,76]:List UInt8))) fun b1=>
 some (b1,())
noncomputable def HD:aZ:=⟨118,[(false,.str)],[(false,.bool)],0,fun n x=>J1 n x.1⟩
theorem Oq (n:Nat):az Tryz.prog hint aI HD n:=
 az.of (hk:=fun β=>(aq.mk [] []).hk β) (sh:=aI) (fun m _=>ab.aC ab.nil m) (fun x=>by kernel_rfl)
noncomputable def CX (_n:Nat) (s:List UInt8):Option (Bool×(Bool×Unit)):=
 bif (s==([116,114,117,101]:List UInt8)) then
 some (true,true,())
 else
 bif (s==([84,114,117,101]:List UInt8)) then
 some (true,true,())
 else
 bif (s==([84,82,85,69]:List UInt8)) then
 some (true,true,())
 else
 bif (s==([102,97,108,115,101]:List UInt8)) then
 some (false,true,())
 else
 bif (s==([70,97,108,115,101]:List UInt8)) then
 some (false,true,())
 else
 bif (s==([70,65,76,83,69]:List UInt8)) then
 some (false,true,())
 else
 some (false,false,())
noncomputable def Bz:aZ:=⟨115,[(false,.str)],[(false,.bool),(false,.bool)],0,fun n x=>CX n x.1⟩
theorem NA (n:Nat):az Tryz.prog hint aI Bz n:=
 az.of (hk:=fun β=>(aq.mk [] []).hk β) (sh:=aI) (fun m _=>ab.aC ab.nil m) (fun x=>by kernel_rfl)
noncomputable def core (n:Nat) (s:List UInt8):Option ((List UInt8)×Unit):=
 Option.bind (CX (n+5) s) fun y0=>
 Option.bind (int n s) fun y1=>
 Option.bind (float n s) fun y2=>
 Option.bind (J1 (n+5) s) fun y3=>
 bif y3.1 then
 some (([110,117,108,108]:List UInt8),())
 else
 bif y0.2.1 then
 some (([98,111,111,108]:List UInt8),())
 else
 bif y1.2.1 then
 some (([105,110,116]:List UInt8),())
 else
 bif y2.2.1 then
 some (([102,108,111,97,116]:List UInt8),())
 else
 some (([115,116,114]:List UInt8),())
noncomputable def J8:aZ:=⟨103,[(false,.str)],[(false,.str)],6,fun n x=>core n x.1⟩
theorem RL (n:Nat):az Tryz.prog hint aI J8 n:=
 az.of (hk:=fun β=>(aq.mk [HD,G4,Qk,Bz] []).hk β) (sh:=aI) (fun m _=>ab.aC ((((ab.nil.fn NA).fn Vl).fn PQ).fn Oq) m) (fun x=>by kernel_rfl)
set_option maxRecDepth 100000
noncomputable def blank (_n:Nat) (c:Int):Option (Bool×Unit):=
 Option.bind (bif (c==32) then
  some true
 else
 some (c==9)) fun b1=>
 some (b1,())
noncomputable def lL:aZ:=⟨131,[(false,(.int .i64))],[(false,.bool)],0,fun n x=>blank n x.1⟩
theorem o7 (n:Nat):az Tryz.prog hint aI lL n:=
 az.of (hk:=fun β=>(aq.mk [] []).hk β) (sh:=aI) (fun m _=>ab.aC ab.nil m) (fun x=>by kernel_rfl)
noncomputable def print (_n:Nat) (c:Int):Option (Bool×Unit):=
 bif (c==9) then
 some (true,())
 else
 bif (c==10) then
 some (true,())
 else
 bif (c==13) then
 some (true,())
 else
 bif (c==133) then
 some (true,())
 else
 Option.bind (bif (au 32 c) then
  some (au c 126)
 else
 some false) fun b1=>
 bif b1 then
 some (true,())
 else
 Option.bind (bif (au 160 c) then
  some (au c 55295)
 else
 some false) fun b3=>
 bif b3 then
 some (true,())
 else
 Option.bind (bif (au 57344 c) then
  some (au c 65533)
 else
 some false) fun b5=>
 bif b5 then
 some (true,())
 else
 Option.bind (bif (au 65536 c) then
  some (au c 1114111)
 else
 some false) fun b7=>
 some (b7,())
noncomputable def qI:aZ:=⟨112,[(false,(.int .i64))],[(false,.bool)],1,fun n x=>print n x.1⟩
theorem wc (n:Nat):az Tryz.prog hint aI qI n:=
 az.of (hk:=fun β=>(aq.mk [] []).hk β) (sh:=aI) (fun m _=>ab.aC ab.nil m) (fun x=>by kernel_rfl)
noncomputable def nM:Tm:=⟨[],[],64,64,1000⟩
noncomputable def tc:Tm:=⟨[(4,.one (.bool))],[],64,64,1000⟩
noncomputable def HI:Tm:=⟨[(1,.one (.int .i64)),(8,.one (.aT .byte)),(9,.one (.int .i64)),(10,.one (.int .i64))],[],64,64,1000⟩
noncomputable def nZ:Nat->Int->(List UInt8)->Int->Int->Option ((Unit×Unit)⊕((Bool×Unit)×Unit))
 |0,_,_,_,_=>none
 |n+1,t1,t8,t9,t10=>
 bif (aX t10 t9) then
  bif (au 0 t10) then
  Option.bind (t8[(Int.toNat t10)]?) fun x2=>
  bif ((zap (ub x2))==t1) then
  some (.inr ((true,()),()))
  else
  nZ n t1 t8 t9 (zap (t10+1))
  else none
 else
 some (.inl ((),()))
noncomputable def rH:aO:=⟨152,2,none,HI,[(.exit 0,nM),(.ret,tc)],0,fun n x=>nZ n x.1.1 x.1.2.1 x.1.2.2.1 x.1.2.2.2.1,[]⟩
theorem ru:nM.ok Tryz.prog hint:=Tm.cC rfl
theorem za:tc.ok Tryz.prog hint:=Tm.cC rfl
theorem lq:HI.ok Tryz.prog hint:=Tm.cC rfl
theorem BX:∀ n,aw Tryz.prog hint aI rH n:=
 aw.of (hk:=fun β=>(aq.mk [] []).hk β) (sh:=aI) (aQ.of (by kernel_rfl)) lq ⟨⟨ru,zam _,zam _⟩,⟨za,zam _,zam _⟩,trivial⟩ (fun m=>ab.aC ab.nil m)
  (fun _=>by kernel_rfl) (fun m x=>by kernel_rfl)
noncomputable def EZ (n:Nat) (c:Int):Option (Bool×Unit):=
 Option.bind (nZ (n+1) c ([44,91,93,123,125]:List UInt8) 5 0) fun y3=>
 match y3 with
 | .inl _=>
  some (false,())
 | .inr y5=>
  some (y5.1.1,())
noncomputable def zc:aZ:=⟨168,[(false,(.int .i64))],[(false,.bool)],2,fun n x=>EZ n x.1⟩
theorem Gl (n:Nat):az Tryz.prog hint aI zc n:=
 az.of (hk:=fun β=>(aq.mk [] [rH]).hk β) (sh:=aI) (fun m _=>ab.aC (ab.nil.loop BX lq) m) (fun x=>by kernel_rfl)
noncomputable def Lq (n:Nat) (c:Int):Option (Bool×Unit):=
 Option.bind (nZ (n+1) c ([45,63,58,44,91,93,123,125,35,38,42,33,124,62,39,34,37,64,96]:List UInt8) 19 0) fun y0=>
 match y0 with
 | .inl _=>
  some (false,())
 | .inr y2=>
  some (y2.1.1,())
noncomputable def FZ:aZ:=⟨129,[(false,(.int .i64))],[(false,.bool)],2,fun n x=>Lq n x.1⟩
theorem Pl (n:Nat):az Tryz.prog hint aI FZ n:=
 az.of (hk:=fun β=>(aq.mk [] [rH]).hk β) (sh:=aI) (fun m _=>ab.aC (ab.nil.loop BX lq) m) (fun x=>by kernel_rfl)
noncomputable def pA:Tm:=⟨[(3,.one (.all 65 3 (.int .i64) .ex))],[(64,.iter)],65,66,1001⟩
noncomputable def KD:Tm:=⟨[(3,.one (.all 65 3 (.int .i64) .ex)),(7,.one (.fix (TV.ptr 64 0)))],[(64,.iter)],65,66,1001⟩
noncomputable def ye:Nat->(List Int)->(List UInt8)->Nat->Option (((List Int)×Unit)×(((List UInt8)×Nat)×Unit))
 |0,_,_,_=>none
 |n+1,t3,i64,p64=>
 bif (Nat.blt p64 (List.length i64)) then
  bif (room (((List.length t3)+(List.length ((zap (((Go.Utf8.decode (ba i64) p64).1:Nat):Int))::([]:List Int))))*9)) then
  ye n (t3++((zap (((Go.Utf8.decode (ba i64) p64).1:Nat):Int))::([]:List Int))) i64 (p64+(Go.Utf8.decode (ba i64) p64).2)
  else none
 else
 some ((t3,()),((i64,p64),()))
noncomputable def EE:aO:=⟨98,3,none,KD,[(.exit 0,pA)],0,fun n x=>ye n x.1.1 x.2.1.1 x.2.1.2,[]⟩
theorem uv:pA.ok Tryz.prog hint:=Tm.cC rfl
theorem xV:KD.ok Tryz.prog hint:=Tm.cC rfl
theorem NW:∀ n,aw Tryz.prog hint aI EE n:=
 aw.of (hk:=fun β=>(aq.mk [] []).hk β) (sh:=aI) (aQ.of (by kernel_rfl)) xV ⟨⟨uv,zam _,zam _⟩,trivial⟩ (fun m=>ab.aC ab.nil m)
  (fun _=>by kernel_rfl) (fun m x=>by kernel_rfl)
noncomputable def points (n:Nat) (s:List UInt8):Option ((List Int)×Unit):=
 Option.bind (ye (n+1) ([]:List Int) s 0) fun y0=>
 some (y0.1.1,())
noncomputable def AX:aZ:=⟨98,[(false,.str)],[(false,(.cy (.int .i64)))],1,fun n x=>points n x.1⟩
theorem MN (n:Nat):az Tryz.prog hint aI AX n:=
 az.of (hk:=fun β=>(aq.mk [] [EE]).hk β) (sh:=aI) (fun m _=>ab.aC (ab.nil.loop NW xV) m) (fun x=>by kernel_rfl)
noncomputable def nP:Tm:=⟨[],[],64,64,1000⟩
noncomputable def ug:Tm:=⟨[(2,.one (.bool))],[],64,64,1000⟩
noncomputable def E7:Tm:=⟨[(5,.one (.aT (.int .i64))),(6,.one (.int .i64)),(7,.one (.int .i64))],[],64,64,1000⟩
noncomputable def ry:Nat->(List Int)->Int->Int->Option ((Unit×Unit)⊕((Bool×Unit)×Unit))
 |0,_,_,_=>none
 |n+1,t5,t6,t7=>
 bif (aX t7 t6) then
  bif (au 0 t7) then
  Option.bind (t5[(Int.toNat t7)]?) fun x4=>
  Option.bind (print (n+1) x4) fun y5=>
  bif (!y5.1) then
  some (.inr ((false,()),()))
  else
  bif (x4==10) then
  some (.inr ((false,()),()))
  else
  bif (x4==13) then
  some (.inr ((false,()),()))
  else
  bif (x4==65279) then
  some (.inr ((false,()),()))
  else
  ry n t5 t6 (zap (t7+1))
  else none
 else
 some (.inl ((),()))
noncomputable def Bv:aO:=⟨100,2,none,E7,[(.exit 0,nP),(.ret,ug)],2,fun n x=>ry n x.1.1 x.1.2.1 x.1.2.2.1,[]⟩
theorem rJ:nP.ok Tryz.prog hint:=Tm.cC rfl
theorem wx:ug.ok Tryz.prog hint:=Tm.cC rfl
theorem tJ:E7.ok Tryz.prog hint:=Tm.cC rfl
theorem LQ:∀ n,aw Tryz.prog hint aI Bv n:=
 aw.of (hk:=fun β=>(aq.mk [qI] []).hk β) (sh:=aI) (aQ.of (by kernel_rfl)) tJ ⟨⟨rJ,zam _,zam _⟩,⟨wx,zam _,zam _⟩,trivial⟩ (fun m=>ab.aC (ab.nil.fn wc) m)
  (fun _=>by kernel_rfl) (fun m x=>by kernel_rfl)
noncomputable def single (n:Nat) (l:List Int):Option (Bool×Unit):=
 Option.bind (ry n l (len l) 0) fun y6=>
 match y6 with
 | .inl _=>
  some (true,())
 | .inr y8=>
  some (y8.1.1,())
noncomputable def rA:aZ:=⟨100,[(false,(.cy (.int .i64)))],[(false,.bool)],2,fun n x=>single n x.1⟩
theorem Bj (n:Nat):az Tryz.prog hint aI rA n:=
 az.of (hk:=fun β=>(aq.mk [] [Bv]).hk β) (sh:=aI) (fun m _=>ab.aC (ab.nil.loop LQ tJ) m) (fun x=>by kernel_rfl)
noncomputable def safe (n:Nat) (l:List Int) (i:Int) (flow:Bool):Option (Bool×Unit):=
 bif (aX i (len l)) then
 bif (au 0 i) then
 Option.bind (l[(Int.toNat i)]?) fun x0=>
 Option.bind (print (n+1) x0) fun y1=>
 bif y1.1 then
  Option.bind (blank (n+2) x0) fun y2=>
  bif (!y2.1) then
  bif (x0 !=10) then
   bif (x0 !=13) then
   bif (x0 !=65279) then
    bif flow then
    Option.bind (EZ n x0) fun y3=>
    some ((!y3.1),())
    else
    some (true,())
   else
   some (false,())
   else
   some (false,())
  else
  some (false,())
  else
  some (false,())
 else
 some (false,())
 else none
 else
 some (false,())
noncomputable def DQ:aZ:=⟨128,[(false,(.cy (.int .i64))),(false,(.int .i64)),(false,.bool)],[(false,.bool)],4,fun n x=>safe n x.1 x.2.1 x.2.2.1⟩
theorem Ki (n:Nat):az Tryz.prog hint aI DQ n:=
 az.of (hk:=fun β=>(aq.mk [zc,lL,qI] []).hk β) (sh:=aI) (fun m _=>ab.aC (((ab.nil.fn wc).fn o7).fn Gl) m) (fun x=>by kernel_rfl)
noncomputable def Dx (n:Nat) (l:List Int) (flow:Bool):Option (Bool×Unit):=
 Option.bind (safe n l 0 flow) fun y0=>
 bif (!y0.1) then
 some (false,())
 else
 Option.bind (l[0]?) fun x1=>
 bif (x1==45) then
 Option.bind (safe n l 1 flow) fun y2=>
 some (y2.1,())
 else
 bif (x1==63) then
 Option.bind (safe n l 1 flow) fun y3=>
 some (y3.1,())
 else
 bif (x1==58) then
 Option.bind (safe n l 1 flow) fun y4=>
 some (y4.1,())
 else
 Option.bind (l[0]?) fun x5=>
 Option.bind (Lq (n+2) x5) fun y6=>
 some ((!y6.1),())
noncomputable def AV:aZ:=⟨109,[(false,(.cy (.int .i64))),(false,.bool)],[(false,.bool)],5,fun n x=>Dx n x.1 x.2.1⟩
theorem NF (n:Nat):az Tryz.prog hint aI AV n:=
 az.of (hk:=fun β=>(aq.mk [FZ,DQ] []).hk β) (sh:=aI) (fun m _=>ab.aC ((ab.nil.fn Ki).fn Pl) m) (fun x=>by kernel_rfl)
noncomputable def jz:Tm:=⟨[],[(64,.cells 23 [.aT (.int .i64)] true),(65,.cells 4 [.bool] true),(66,.cells 3 [.int .i64] true),(68,.cells 4 [.bool] true),(69,.loop 130 Go.LoopState.ready (Option.none) (nc Tryz.prog hint 130) [(2,.one (.fix (TV.ptr 64 0))),(3,.one (.fix (TV.ptr 65 0))),(4,.one (.fix (TV.ptr 66 0)))] (aU Tryz.prog 130 4).1 (aU Tryz.prog 130 4).2.1 (aU Tryz.prog 130 4).2.2)],70,70,1006⟩
noncomputable def lW:Tm:=⟨[],[(64,.cells 23 [.aT (.int .i64)] true),(65,.cells 4 [.bool] true),(66,.cells 3 [.int .i64] true),(68,.cells 4 [.bool] true),(69,.loop 130 Go.LoopState.done (Option.some Go.Code.ret) (nc Tryz.prog hint 130) [(2,.one (.fix (TV.ptr 64 0))),(3,.one (.fix (TV.ptr 65 0))),(4,.one (.fix (TV.ptr 66 0)))] (aU Tryz.prog 130 4).1 (aU Tryz.prog 130 4).2.1 (aU Tryz.prog 130 4).2.2)],70,70,1006⟩
noncomputable def wI:Tm:=⟨[(0,.one (.fix (TV.mI 69))),(2,.one (.fix (TV.ptr 68 0))),(6,.one (.aT (.int .i64))),(7,.one (.int .i64)),(8,.one (.int .i64))],[(64,.cells 23 [.aT (.int .i64)] true),(65,.cells 4 [.bool] true),(66,.cells 3 [.int .i64] true),(68,.cells 4 [.bool] true),(69,.loop 130 Go.LoopState.ready (Option.none) (nc Tryz.prog hint 130) [(2,.one (.fix (TV.ptr 64 0))),(3,.one (.fix (TV.ptr 65 0))),(4,.one (.fix (TV.ptr 66 0)))] (aU Tryz.prog 130 4).1 (aU Tryz.prog 130 4).2.1 (aU Tryz.prog 130 4).2.2)],70,70,1006⟩
noncomputable def bO:Nat->(List Int)->Int->Int->(List Int)->Bool->Int->Bool->Option ((Unit×(((List Int)×Unit)×((Bool×Unit)×((Int×Unit)×((Bool×Unit)×((Unit×(Unit×(Unit×Unit)))×Unit))))))⊕(Unit×(((List Int)×Unit)×((Bool×Unit)×((Int×Unit)×((Bool×Unit)×((Unit×(Unit×(Unit×Unit)))×Unit)))))))
 |0,_,_,_,_,_,_,_=>none
 |n+1,t6,t7,t8,c64_0,c65_0,c66_0,c68_0=>
 bif (aX t8 t7) then
  bif (au 0 t8) then
  Option.bind (t6[(Int.toNat t8)]?) fun x52=>
  bif (x52==58) then
  bif (au 0 t8) then
  Option.bind (c64_0[(Int.toNat t8)]?) fun x53=>
  bif (x53==58) then
   Option.bind (safe (n+1) c64_0 (zap (t8+1)) c65_0) fun y54=>
   bif y54.1 then
   bO n t6 t7 (zap (t8+1)) c64_0 c65_0 c66_0 c68_0
   else
   bif (au 0 t8) then
   Option.bind (c64_0[(Int.toNat t8)]?) fun x55=>
   bif (x55==35) then
   bif (t8==0) then
    bO n t6 t7 (zap (t8+1)) c64_0 c65_0 c66_0 c68_0
   else
   bif (au 0 (zap (t8 - 1))) then
   Option.bind (c64_0[(Int.toNat (zap (t8 - 1)))]?) fun x56=>
   Option.bind (blank (n+5) x56) fun y57=>
   bif (!y57.1) then
    bO n t6 t7 (zap (t8+1)) c64_0 c65_0 c66_0 c68_0
   else
   some (.inr ((),((c64_0,()),((c65_0,()),((t8,()),((c68_0,()),(((),((),((),()))),())))))))
   else none
   else
   some (.inr ((),((c64_0,()),((c65_0,()),((t8,()),((c68_0,()),(((),((),((),()))),())))))))
   else none
  else
  bif (au 0 t8) then
  Option.bind (c64_0[(Int.toNat t8)]?) fun x58=>
  bif (x58==35) then
   bif (t8==0) then
   bO n t6 t7 (zap (t8+1)) c64_0 c65_0 c66_0 c68_0
   else
   bif (au 0 (zap (t8 - 1))) then
   Option.bind (c64_0[(Int.toNat (zap (t8 - 1)))]?) fun x59=>
   Option.bind (blank (n+5) x59) fun y60=>
   bif (!y60.1) then
   bO n t6 t7 (zap (t8+1)) c64_0 c65_0 c66_0 c68_0
   else
   some (.inr ((),((c64_0,()),((c65_0,()),((t8,()),((c68_0,()),(((),((),((),()))),())))))))
   else none
  else
  some (.inr ((),((c64_0,()),((c65_0,()),((t8,()),((c68_0,()),(((),((),((),()))),())))))))
  else none
  else none
  else
  bif (x52==35) then
  bif (au 0 t8) then
  Option.bind (c64_0[(Int.toNat t8)]?) fun x61=>
  bif (x61==58) then
   Option.bind (safe (n+1) c64_0 (zap (t8+1)) c65_0) fun y62=>
   bif y62.1 then
   bO n t6 t7 (zap (t8+1)) c64_0 c65_0 c66_0 c68_0
   else
   bif (au 0 t8) then
   Option.bind (c64_0[(Int.toNat t8)]?) fun x63=>
   bif (x63==35) then
   bif (t8==0) then
    bO n t6 t7 (zap (t8+1)) c64_0 c65_0 c66_0 c68_0
   else
   bif (au 0 (zap (t8 - 1))) then
   Option.bind (c64_0[(Int.toNat (zap (t8 - 1)))]?) fun x64=>
   Option.bind (blank (n+5) x64) fun y65=>
   bif (!y65.1) then
    bO n t6 t7 (zap (t8+1)) c64_0 c65_0 c66_0 c68_0
   else
   some (.inr ((),((c64_0,()),((c65_0,()),((t8,()),((c68_0,()),(((),((),((),()))),())))))))
   else none
   else
   some (.inr ((),((c64_0,()),((c65_0,()),((t8,()),((c68_0,()),(((),((),((),()))),())))))))
   else none
  else
  bif (au 0 t8) then
  Option.bind (c64_0[(Int.toNat t8)]?) fun x66=>
  bif (x66==35) then
   bif (t8==0) then
   bO n t6 t7 (zap (t8+1)) c64_0 c65_0 c66_0 c68_0
   else
   bif (au 0 (zap (t8 - 1))) then
   Option.bind (c64_0[(Int.toNat (zap (t8 - 1)))]?) fun x67=>
   Option.bind (blank (n+5) x67) fun y68=>
   bif (!y68.1) then
   bO n t6 t7 (zap (t8+1)) c64_0 c65_0 c66_0 c68_0
   else
   some (.inr ((),((c64_0,()),((c65_0,()),((t8,()),((c68_0,()),(((),((),((),()))),())))))))
   else none
  else
  some (.inr ((),((c64_0,()),((c65_0,()),((t8,()),((c68_0,()),(((),((),((),()))),())))))))
  else none
  else none
  else
  bif c68_0 then
  Option.bind (EZ (n+4) x52) fun y69=>
  bif y69.1 then
   bif (au 0 t8) then
   Option.bind (c64_0[(Int.toNat t8)]?) fun x70=>
   bif (x70==58) then
   Option.bind (safe (n+1) c64_0 (zap (t8+1)) c65_0) fun y71=>
   bif y71.1 then
    bO n t6 t7 (zap (t8+1)) c64_0 c65_0 c66_0 c68_0
   else
   bif (au 0 t8) then
   Option.bind (c64_0[(Int.toNat t8)]?) fun x72=>
   bif (x72==35) then
    bif (t8==0) then
    bO n t6 t7 (zap (t8+1)) c64_0 c65_0 c66_0 c68_0
    else
    bif (au 0 (zap (t8 - 1))) then
    Option.bind (c64_0[(Int.toNat (zap (t8 - 1)))]?) fun x73=>
    Option.bind (blank (n+5) x73) fun y74=>
    bif (!y74.1) then
    bO n t6 t7 (zap (t8+1)) c64_0 c65_0 c66_0 c68_0
    else
    some (.inr ((),((c64_0,()),((c65_0,()),((t8,()),((c68_0,()),(((),((),((),()))),())))))))
    else none
   else
   some (.inr ((),((c64_0,()),((c65_0,()),((t8,()),((c68_0,()),(((),((),((),()))),())))))))
   else none
   else
   bif (au 0 t8) then
   Option.bind (c64_0[(Int.toNat t8)]?) fun x75=>
   bif (x75==35) then
   bif (t8==0) then
    bO n t6 t7 (zap (t8+1)) c64_0 c65_0 c66_0 c68_0
   else
   bif (au 0 (zap (t8 - 1))) then
   Option.bind (c64_0[(Int.toNat (zap (t8 - 1)))]?) fun x76=>
   Option.bind (blank (n+5) x76) fun y77=>
   bif (!y77.1) then
    bO n t6 t7 (zap (t8+1)) c64_0 c65_0 c66_0 c68_0
   else
   some (.inr ((),((c64_0,()),((c65_0,()),((t8,()),((c68_0,()),(((),((),((),()))),())))))))
   else none
   else
   some (.inr ((),((c64_0,()),((c65_0,()),((t8,()),((c68_0,()),(((),((),((),()))),())))))))
   else none
   else none
  else
  bO n t6 t7 (zap (t8+1)) c64_0 c65_0 c66_0 c68_0
  else
  bO n t6 t7 (zap (t8+1)) c64_0 c65_0 c66_0 c68_0
  else none
 else
 some (.inl ((),((c64_0,()),((c65_0,()),((c66_0,()),((c68_0,()),(((),((),((),()))),())))))))
noncomputable def AF:aO:=⟨169,1,none,wI,[(.exit 0,jz),(.ret,lW)],6,fun n x=>bO n x.1.2.2.1 x.1.2.2.2.1 x.1.2.2.2.2.1 x.2.1.1 x.2.2.1.1 x.2.2.2.1.1 x.2.2.2.2.1.1,[67]⟩
theorem sb:jz.ok Tryz.prog hint:=by
 intro p hp;simp only [jz,List.mem_cons,List.not_mem_nil,or_false] at hp;rcases hp with rfl |rfl |rfl |rfl |rfl
 ·trivial
 ·trivial
 ·trivial
 ·trivial
 ·exact nR.of (by kernel_rfl) (by kernel_rfl)
theorem wL:lW.ok Tryz.prog hint:=by
 intro p hp;simp only [lW,List.mem_cons,List.not_mem_nil,or_false] at hp;rcases hp with rfl |rfl |rfl |rfl |rfl
 ·trivial
 ·trivial
 ·trivial
 ·trivial
 ·exact nR.of (by kernel_rfl) (by kernel_rfl)
theorem tK:wI.ok Tryz.prog hint:=by
 intro p hp;simp only [wI,List.mem_cons,List.not_mem_nil,or_false] at hp;rcases hp with rfl |rfl |rfl |rfl |rfl
 ·trivial
 ·trivial
 ·trivial
 ·trivial
 ·exact nR.of (by kernel_rfl) (by kernel_rfl)
theorem My:∀ n,aw Tryz.prog hint aI AF n:=
 aw.of (hk:=fun β=>(aq.mk [zc,lL,DQ] []).hk β) (sh:=aI) (aQ.of (by kernel_rfl)) tK ⟨⟨sb,zam _,zam _⟩,⟨wL,zam _,zam _⟩,trivial⟩ (fun m=>ab.aC (((ab.nil.fn Ki).fn o7).fn Gl) m)
  (fun _=>by kernel_rfl) (fun m x=>by kernel_rfl)
noncomputable def stop (n:Nat) (l:List Int) (flow:Bool):Option (Int×Unit):=
 Option.bind (bO n l (len l) 0 l flow 0 flow) fun y78=>
 match y78 with
 | .inl y79=>
  some ((len y79.2.1.1),())
 | .inr y80=>
  some (y80.2.2.2.1.1,())
noncomputable def KW:aZ:=⟨130,[(false,(.cy (.int .i64))),(false,.bool)],[(false,(.int .i64))],7,fun n x=>stop n x.1 x.2.1⟩
theorem Sn (n:Nat):az Tryz.prog hint aI KW n:=
 az.of (hk:=fun β=>(aq.mk [] [AF]).hk β) (sh:=aI) (fun m _=>ab.aC (ab.nil.loop My tK) m) (fun x=>by kernel_rfl)
noncomputable def ny:Tm:=⟨[(5,.one (.int .i64))],[],64,64,1000⟩
noncomputable def EY:Tm:=⟨[(0,.one (.aT (.int .i64))),(5,.one (.int .i64))],[],64,64,1000⟩
noncomputable def yg:Nat->(List Int)->Int->Option ((Int×Unit)×Unit)
 |0,_,_=>none
 |n+1,t0,t5=>
 bif (aX 0 t5) then
  bif (au 0 (zap (t5 - 1))) then
  Option.bind (t0[(Int.toNat (zap (t5 - 1)))]?) fun x5=>
  Option.bind (blank (n+1) x5) fun y6=>
  bif y6.1 then
  yg n t0 (zap (t5 - 1))
  else
  some ((t5,()),())
  else none
 else
 some ((t5,()),())
noncomputable def Bi:aO:=⟨110,2,none,EY,[(.exit 0,ny)],1,fun n x=>yg n x.1.1 x.1.2.1,[]⟩
theorem rT:ny.ok Tryz.prog hint:=Tm.cC rfl
theorem tI:EY.ok Tryz.prog hint:=Tm.cC rfl
theorem Mt:∀ n,aw Tryz.prog hint aI Bi n:=
 aw.of (hk:=fun β=>(aq.mk [lL] []).hk β) (sh:=aI) (aQ.of (by kernel_rfl)) tI ⟨⟨rT,zam _,zam _⟩,trivial⟩ (fun m=>ab.aC (ab.nil.fn o7) m)
  (fun _=>by kernel_rfl) (fun m x=>by kernel_rfl)
noncomputable def SV (n:Nat) (l:List Int) (flow:Bool):Option (Int×Unit):=
 Option.bind (stop n l flow) fun y0=>
 Option.bind (yg (n+7) l y0.1) fun y7=>
 some (y7.1.1,())
noncomputable def Kk:aZ:=⟨110,[(false,(.cy (.int .i64))),(false,.bool)],[(false,(.int .i64))],8,fun n x=>SV n x.1 x.2.1⟩
theorem Tf (n:Nat):az Tryz.prog hint aI Kk n:=
 az.of (hk:=fun β=>(aq.mk [KW] [Bi]).hk β) (sh:=aI) (fun m _=>ab.aC ((ab.nil.fn Sn).loop Mt tI) m) (fun x=>by kernel_rfl)
noncomputable def vp (n:Nat) (s:List UInt8) (l:List Int):Option (Bool×Unit):=
 Option.bind (Dx (n+3) l true) fun y0=>
 bif (!y0.1) then
 some (false,())
 else
 Option.bind (SV n l true) fun y1=>
 bif (y1.1 !=(len l)) then
 some (false,())
 else
 Option.bind (single (n+6) l) fun y2=>
 bif (!y2.1) then
 some (false,())
 else
 Option.bind (hasPrefix (n+7) s ([45,45,45]:List UInt8)) fun y3=>
 bif (!y3.1) then
 Option.bind (hasPrefix (n+7) s ([46,46,46]:List UInt8)) fun y4=>
 some ((!y4.1),())
 else
 some (false,())
noncomputable def wm:aZ:=⟨99,[(false,.str),(false,(.cy (.int .i64)))],[(false,.bool)],9,fun n x=>vp n x.1 x.2.1⟩
theorem Ih (n:Nat):az Tryz.prog hint aI wm n:=
 az.of (hk:=fun β=>(aq.mk [gQ,rA,Kk,AV] []).hk β) (sh:=aI) (fun m _=>ab.aC ((((ab.nil.fn NF).fn Tf).fn Bj).fn kA) m) (fun x=>by kernel_rfl)
noncomputable def ni:Tm:=⟨[(0,.one (.aT (.int .i64))),(1,.one (.bool))],[],64,64,1000⟩
noncomputable def ti:Tm:=⟨[(4,.one (.bool))],[],64,64,1000⟩
noncomputable def FG:Tm:=⟨[(0,.one (.aT (.int .i64))),(1,.one (.bool)),(7,.one (.aT (.int .i64))),(8,.one (.int .i64)),(9,.one (.int .i64))],[],64,64,1000⟩
noncomputable def ri:Nat->(List Int)->Bool->(List Int)->Int->Int->Option ((((List Int)×(Bool×Unit))×Unit)⊕((Bool×Unit)×Unit))
 |0,_,_,_,_,_=>none
 |n+1,t0,t1,t7,t8,t9=>
 bif (aX t9 t8) then
  bif (au 0 t9) then
  Option.bind (t7[(Int.toNat t9)]?) fun x4=>
  Option.bind (print (n+1) x4) fun y5=>
  bif (!y5.1) then
  some (.inr ((false,()),()))
  else
  bif (x4==13) then
  some (.inr ((false,()),()))
  else
  bif (x4==65279) then
  some (.inr ((false,()),()))
  else
  ri n t0 t1 t7 t8 (zap (t9+1))
  else none
 else
 some (.inl ((t0,(t1,())),()))
noncomputable def Bw:aO:=⟨101,2,none,FG,[(.exit 0,ni),(.ret,ti)],2,fun n x=>ri n x.1.1 x.1.2.1 x.1.2.2.1 x.1.2.2.2.1 x.1.2.2.2.2.1,[]⟩
theorem sq:ni.ok Tryz.prog hint:=Tm.cC rfl
theorem vW:ti.ok Tryz.prog hint:=Tm.cC rfl
theorem s5:FG.ok Tryz.prog hint:=Tm.cC rfl
theorem L9:∀ n,aw Tryz.prog hint aI Bw n:=
 aw.of (hk:=fun β=>(aq.mk [qI] []).hk β) (sh:=aI) (aQ.of (by kernel_rfl)) s5 ⟨⟨sq,zam _,zam _⟩,⟨vW,zam _,zam _⟩,trivial⟩ (fun m=>ab.aC (ab.nil.fn wc) m)
  (fun _=>by kernel_rfl) (fun m x=>by kernel_rfl)
noncomputable def literal (n:Nat) (l:List Int) (flow:Bool):Option (Bool×Unit):=
 Option.bind (ri n l flow l (len l) 0) fun y6=>
 match y6 with
 | .inl y7=>
  Option.bind (bif (!y7.1.2.1) then
   some (aX 0 (len y7.1.1))
  else
  some false) fun b10=>
  some (b10,())
 | .inr y8=>
  some (y8.1.1,())
noncomputable def zf:aZ:=⟨101,[(false,(.cy (.int .i64))),(false,.bool)],[(false,.bool)],2,fun n x=>literal n x.1 x.2.1⟩
theorem Iy (n:Nat):az Tryz.prog hint aI zf n:=
 az.of (hk:=fun β=>(aq.mk [] [Bw]).hk β) (sh:=aI) (fun m _=>ab.aC (ab.nil.loop L9 s5) m) (fun x=>by kernel_rfl)
noncomputable def np:Tm:=⟨[],[],64,64,1000⟩
noncomputable def th:Tm:=⟨[(2,.one (.bool))],[],64,64,1000⟩
noncomputable def Fj:Tm:=⟨[(0,.one (.str)),(5,.one (.int .i64)),(6,.one (.int .i64))],[],64,64,1000⟩
noncomputable def jC:Nat->(List UInt8)->Int->Int->Option ((Unit×Unit)⊕((Bool×Unit)×Unit))
 |0,_,_,_=>none
 |n+1,t0,t5,t6=>
 bif (aX t6 t5) then
  bif (au 0 t6) then
  Option.bind (t0[(Int.toNat t6)]?) fun x8=>
  Option.bind (blank (n+1) (zap (ub x8))) fun y9=>
  bif y9.1 then
  bif (t6==0) then
   some (.inr ((false,()),()))
  else
  bif ((zap (t6+1))==(len t0)) then
   some (.inr ((false,()),()))
  else
  bif (au 0 (zap (t6+1))) then
  Option.bind (t0[(Int.toNat (zap (t6+1)))]?) fun x10=>
  Option.bind (blank (n+1) (zap (ub x10))) fun y11=>
  bif y11.1 then
   some (.inr ((false,()),()))
  else
  jC n t0 t5 (zap (t6+1))
  else none
  else
  jC n t0 t5 (zap (t6+1))
  else none
 else
 some (.inl ((),()))
noncomputable def A2:aO:=⟨114,2,none,Fj,[(.exit 0,np),(.ret,th)],2,fun n x=>jC n x.1.1 x.1.2.1 x.1.2.2.1,[]⟩
theorem rM:np.ok Tryz.prog hint:=Tm.cC rfl
theorem vE:th.ok Tryz.prog hint:=Tm.cC rfl
theorem tY:Fj.ok Tryz.prog hint:=Tm.cC rfl
theorem Mr:∀ n,aw Tryz.prog hint aI A2 n:=
 aw.of (hk:=fun β=>(aq.mk [lL] []).hk β) (sh:=aI) (aQ.of (by kernel_rfl)) tY ⟨⟨rM,zam _,zam _⟩,⟨vE,zam _,zam _⟩,trivial⟩ (fun m=>ab.aC (ab.nil.fn o7) m)
  (fun _=>by kernel_rfl) (fun m x=>by kernel_rfl)
noncomputable def Am (n:Nat) (s:List UInt8):Option (Bool×Unit):=
 Option.bind (jC n s (len s) 0) fun y12=>
 match y12 with
 | .inl _=>
  some (true,())
 | .inr y14=>
  some (y14.1.1,())
noncomputable def vB:aZ:=⟨114,[(false,.str)],[(false,.bool)],2,fun n x=>Am n x.1⟩
theorem Gm (n:Nat):az Tryz.prog hint aI vB n:=
 az.of (hk:=fun β=>(aq.mk [] [A2]).hk β) (sh:=aI) (fun m _=>ab.aC (ab.nil.loop Mr tY) m) (fun x=>by kernel_rfl)
noncomputable def jB:Tm:=⟨[(0,.one (.fix (TV.mI 68))),(2,.one (.fix (TV.ptr 65 0)))],[(64,.cells 4 [.bool] true),(65,.cells 9 [.str] true),(66,.cells 9 [.str] true),(67,.cells 3 [.int .i64] true),(68,.loop 102 Go.LoopState.ready (Option.none) (nc Tryz.prog hint 102) [(2,.one (.fix (TV.ptr 64 0)))] (aU Tryz.prog 102 3).1 (aU Tryz.prog 102 3).2.1 (aU Tryz.prog 102 3).2.2)],69,69,1005⟩
noncomputable def mc:Tm:=⟨[],[(64,.cells 4 [.bool] true),(65,.cells 9 [.str] true),(66,.cells 9 [.str] true),(67,.cells 3 [.int .i64] true),(68,.loop 102 Go.LoopState.done (Option.some Go.Code.ret) (nc Tryz.prog hint 102) [(2,.one (.fix (TV.ptr 64 0)))] (aU Tryz.prog 102 3).1 (aU Tryz.prog 102 3).2.1 (aU Tryz.prog 102 3).2.2)],69,69,1005⟩
noncomputable def vG:Tm:=⟨[(0,.one (.fix (TV.mI 68))),(1,.one (.fix (TV.ptr 66 0))),(2,.one (.fix (TV.ptr 65 0))),(3,.one (.fix (TV.ptr 67 0)))],[(64,.cells 4 [.bool] true),(65,.cells 9 [.str] true),(66,.cells 9 [.str] true),(67,.cells 3 [.int .i64] true),(68,.loop 102 Go.LoopState.ready (Option.none) (nc Tryz.prog hint 102) [(2,.one (.fix (TV.ptr 64 0)))] (aU Tryz.prog 102 3).1 (aU Tryz.prog 102 3).2.1 (aU Tryz.prog 102 3).2.2)],69,69,1005⟩
noncomputable def og:Nat->Bool->(List UInt8)->(List UInt8)->Int->Option (((Unit×(Unit×Unit))×((Bool×Unit)×(((List UInt8)×Unit)×(((List UInt8)×Unit)×((Int×Unit)×((Unit×Unit)×Unit))))))⊕(Unit×((Bool×Unit)×(((List UInt8)×Unit)×(((List UInt8)×Unit)×((Int×Unit)×((Unit×Unit)×Unit)))))))
 |0,_,_,_,_=>none
 |n+1,c64_0,c65_0,c66_0,c67_0=>
 Option.bind (bif ((len c66_0)==0) then
  some true
  else
  some (c66_0==c65_0)) fun b13=>
 bif b13 then
  bif ((au 0 (zap (0+c67_0))) &&(au (zap (0+c67_0)) (len c65_0))) then
  Option.bind (Am (n+1) (List.take ((Int.toNat (zap (0+c67_0))) - 0) (List.drop 0 c65_0))) fun y14=>
  bif (!y14.1) then
  some (.inr ((),((false,()),((c65_0,()),((c66_0,()),((c67_0,()),(((),()),())))))))
  else
  bif ((au 0 (zap (0+(len c66_0)))) &&(au (zap (0+(len c66_0))) (len c65_0))) then
  og n c64_0 (List.take ((List.length c65_0) - (Int.toNat (zap (0+(len c66_0))))) (List.drop (Int.toNat (zap (0+(len c66_0)))) c65_0)) c66_0 c67_0
  else none
  else none
 else
 bif ((len c66_0)==1) then
  Option.bind (c66_0[0]?) fun x15=>
  bif (aX (qU x15 c65_0) 0) then
  some (.inl (((),((),())),((c64_0,()),((c65_0,()),((c66_0,()),((c67_0,()),(((),()),())))))))
  else
  bif ((au 0 (zap ((qU x15 c65_0)+c67_0))) &&(au (zap ((qU x15 c65_0)+c67_0)) (len c65_0))) then
  Option.bind (Am (n+1) (List.take ((Int.toNat (zap ((qU x15 c65_0)+c67_0))) - 0) (List.drop 0 c65_0))) fun y16=>
  bif (!y16.1) then
  some (.inr ((),((false,()),((c65_0,()),((c66_0,()),((c67_0,()),(((),()),())))))))
  else
  bif ((au 0 (zap ((qU x15 c65_0)+(len c66_0)))) &&(au (zap ((qU x15 c65_0)+(len c66_0))) (len c65_0))) then
  og n c64_0 (List.take ((List.length c65_0) - (Int.toNat (zap ((qU x15 c65_0)+(len c66_0))))) (List.drop (Int.toNat (zap ((qU x15 c65_0)+(len c66_0)))) c65_0)) c66_0 c67_0
  else none
  else none
 else
 bif (au (len c65_0) (len c66_0)) then
  some (.inl (((),((),())),((c64_0,()),((c65_0,()),((c66_0,()),((c67_0,()),(((),()),())))))))
 else
 none
noncomputable def Bg:aO:=⟨154,5,none,vG,[(.exit 2,jB),(.ret,mc)],4,fun n x=>og n x.2.1.1 x.2.2.1.1 x.2.2.2.1.1 x.2.2.2.2.1.1,[]⟩
theorem sO:jB.ok Tryz.prog hint:=by
 intro p hp;simp only [jB,List.mem_cons,List.not_mem_nil,or_false] at hp;rcases hp with rfl |rfl |rfl |rfl |rfl
 ·trivial
 ·trivial
 ·trivial
 ·trivial
 ·exact nR.of (by kernel_rfl) (by kernel_rfl)
theorem yw:mc.ok Tryz.prog hint:=by
 intro p hp;simp only [mc,List.mem_cons,List.not_mem_nil,or_false] at hp;rcases hp with rfl |rfl |rfl |rfl |rfl
 ·trivial
 ·trivial
 ·trivial
 ·trivial
 ·exact nR.of (by kernel_rfl) (by kernel_rfl)
theorem tj:vG.ok Tryz.prog hint:=by
 intro p hp;simp only [vG,List.mem_cons,List.not_mem_nil,or_false] at hp;rcases hp with rfl |rfl |rfl |rfl |rfl
 ·trivial
 ·trivial
 ·trivial
 ·trivial
 ·exact nR.of (by kernel_rfl) (by kernel_rfl)
theorem Np:∀ n,aw Tryz.prog hint aI Bg n:=
 aw.of (hk:=fun β=>(aq.mk [vB] []).hk β) (sh:=aI) (aQ.of (by kernel_rfl)) tj ⟨⟨sO,zam _,zam _⟩,⟨yw,zam _,zam _⟩,trivial⟩ (fun m=>ab.aC (ab.nil.fn Gm) m)
  (fun _=>by kernel_rfl) (fun m x=>by kernel_rfl)
noncomputable def DN (n:Nat) (s:List UInt8):Option (Bool×Unit):=
 Option.bind (og n false s ([10]:List UInt8) 0) fun y18=>
 match y18 with
 | .inl y19=>
  Option.bind (Am n y19.2.2.1.1) fun y21=>
  bif (!y21.1) then
  some (false,())
  else
  some (true,())
 | .inr y20=>
  some (y20.2.1.1,())
noncomputable def Ay:aZ:=⟨102,[(false,.str)],[(false,.bool)],5,fun n x=>DN n x.1⟩
theorem Mq (n:Nat):az Tryz.prog hint aI Ay n:=
 az.of (hk:=fun β=>(aq.mk [vB] [Bg]).hk β) (sh:=aI) (fun m _=>ab.aC ((ab.nil.loop Np tj).fn Gm) m) (fun x=>by kernel_rfl)
noncomputable def may (n:Nat) (style:Int) (s:List UInt8) (flow:Bool):Option (Bool×Unit):=
 bif (Nat.ble (List.length s) 9223372036854775807) then
 bif (!(Go.Lib.validD s)) then
 some (false,())
 else
 Option.bind (points (n+8) s) fun y0=>
 bif (style==1) then
 Option.bind (vp n s y0.1) fun y1=>
 some (y1.1,())
 else
 bif (style==2) then
 Option.bind (single (n+7) y0.1) fun y2=>
 some (y2.1,())
 else
 bif (style==3) then
 some (true,())
 else
 bif (style==4) then
 Option.bind (literal (n+7) y0.1 flow) fun y3=>
 some (y3.1,())
 else
 bif (style==5) then
 Option.bind (literal (n+7) y0.1 flow) fun y4=>
 bif y4.1 then
  Option.bind (DN (n+4) s) fun y5=>
  some (y5.1,())
 else
 some (false,())
 else
 some (false,())
 else none
noncomputable def PF:aZ:=⟨82,[(false,(.int .i64)),(false,.str),(false,.bool)],[(false,.bool)],10,fun n x=>may n x.1 x.2.1 x.2.2.1⟩
theorem Uy (n:Nat):az Tryz.prog hint aI PF n:=
 az.of (hk:=fun β=>(aq.mk [Ay,zf,rA,wm,AX] []).hk β) (sh:=aI) (fun m _=>ab.aC (((((ab.nil.fn MN).fn Ih).fn Bj).fn Iy).fn Mq) m) (fun x=>by kernel_rfl)
set_option maxRecDepth 100000
noncomputable def kR (_n:Nat) (c:Int):Option (Bool×Unit):=
 Option.bind (bif (c==9) then
  some true
 else
 bif (c==10) then
  some true
 else
 bif (c==13) then
  some true
 else
 bif (au 32 c) then
  bif (au c 126) then
  some true
  else
  bif (c==133) then
  some true
  else
  bif (au 160 c) then
  bif (aX c 55296) then
   some true
  else
  bif (au 57344 c) then
   bif (au c 65533) then
   some true
   else
   bif (au 65536 c) then
   some (au c 1114111)
   else
   some false
  else
  bif (au 65536 c) then
   some (au c 1114111)
  else
  some false
  else
  bif (au 57344 c) then
  bif (au c 65533) then
   some true
  else
  bif (au 65536 c) then
   some (au c 1114111)
  else
  some false
  else
  bif (au 65536 c) then
  some (au c 1114111)
  else
  some false
 else
 bif (c==133) then
  some true
 else
 bif (au 160 c) then
  bif (aX c 55296) then
  some true
  else
  bif (au 57344 c) then
  bif (au c 65533) then
   some true
  else
  bif (au 65536 c) then
   some (au c 1114111)
  else
  some false
  else
  bif (au 65536 c) then
  some (au c 1114111)
  else
  some false
 else
 bif (au 57344 c) then
  bif (au c 65533) then
  some true
  else
  bif (au 65536 c) then
  some (au c 1114111)
  else
  some false
 else
 bif (au 65536 c) then
  some (au c 1114111)
 else
 some false) fun b1=>
 some (b1,())
noncomputable def jZ:aZ:=⟨63,[(false,(.int .i64))],[(false,.bool)],0,fun n x=>kR n x.1⟩
theorem mA (n:Nat):az Tryz.prog hint aI jZ n:=
 az.of (hk:=fun β=>(aq.mk [] []).hk β) (sh:=aI) (fun m _=>ab.aC ab.nil m) (fun x=>by kernel_rfl)
noncomputable def mb (_n:Nat) (c:Int):Option (Bool×Unit):=
 Option.bind (bif (au 0 c) then
  bif (au c 1114111) then
  bif (aX c 55296) then
   some true
  else
  some (aX 57343 c)
  else
  some false
 else
 some false) fun b1=>
 some (b1,())
noncomputable def An:aZ:=⟨105,[(false,(.int .i64))],[(false,.bool)],0,fun n x=>mb n x.1⟩
theorem L3 (n:Nat):az Tryz.prog hint aI An n:=
 az.of (hk:=fun β=>(aq.mk [] []).hk β) (sh:=aI) (fun m _=>ab.aC ab.nil m) (fun x=>by kernel_rfl)
noncomputable def nC:Tm:=⟨[(5,.one (.int .i64)),(6,.one (.int .i64)),(7,.one (.int .i64))],[],64,64,1000⟩
noncomputable def uf:Tm:=⟨[(2,.one (.int .i64)),(3,.one (.int .i64))],[],64,64,1000⟩
noncomputable def GY:Tm:=⟨[(0,.one (.aT .byte)),(5,.one (.int .i64)),(6,.one (.int .i64)),(7,.one (.int .i64)),(8,.one (.int .i64))],[],64,64,1000⟩
noncomputable def jm:Nat->(List UInt8)->Int->Int->Int->Int->Option (((Int×(Int×(Int×Unit)))×Unit)⊕((Int×(Int×Unit))×Unit))
 |0,_,_,_,_,_=>none
 |n+1,t0,t5,t6,t7,t8=>
 bif (aX t8 t5) then
  bif (au 0 t8) then
  Option.bind (t0[(Int.toNat t8)]?) fun x9=>
  Option.bind (bif (aX (zap (ub x9)) 128) then
   some true
  else
  some (aX 191 (zap (ub x9)))) fun b11=>
  bif b11 then
  some (.inr ((0,(0,())),()))
  else
  jm n t0 t5 t6 (zap ((zap (t7*64))+(C1 Go.IntKind.i64 (zap (ub x9)) 63))) (zap (t8+1))
  else none
 else
 some (.inl ((t5,(t6,(t7,()))),()))
noncomputable def B2:aO:=⟨86,23,none,GY,[(.exit 1,nC),(.ret,uf)],0,fun n x=>jm n x.1.1 x.1.2.1 x.1.2.2.1 x.1.2.2.2.1 x.1.2.2.2.2.1,[]⟩
theorem sS:nC.ok Tryz.prog hint:=Tm.cC rfl
theorem yB:uf.ok Tryz.prog hint:=Tm.cC rfl
theorem uj:GY.ok Tryz.prog hint:=Tm.cC rfl
theorem LK:∀ n,aw Tryz.prog hint aI B2 n:=
 aw.of (hk:=fun β=>(aq.mk [] []).hk β) (sh:=aI) (aQ.of (by kernel_rfl)) uj ⟨⟨sS,zam _,zam _⟩,⟨yB,zam _,zam _⟩,trivial⟩ (fun m=>ab.aC ab.nil m)
  (fun _=>by kernel_rfl) (fun m x=>by kernel_rfl)
noncomputable def sJ (n:Nat) (b:List UInt8):Option (Int×(Int×Unit)):=
 Option.bind (b[0]?) fun x0=>
 bif (aX (zap (ub x0)) 128) then
 some ((zap (ub x0)),1,())
 else
 Option.bind (bif (au 194 (zap (ub x0))) then
  some (aX (zap (ub x0)) 224)
 else
 some false) fun b2=>
 bif b2 then
 bif (aX (len b) 2) then
  some (0,0,())
 else
 Option.bind (jm (n+1) b 2 128 (C1 Go.IntKind.i64 (zap (ub x0)) 31) 1) fun y12=>
 match y12 with
  | .inl y13=>
  bif (aX y13.1.2.2.1 y13.1.2.1) then
   some (0,0,())
  else
  Option.bind (mb n y13.1.2.2.1) fun y15=>
  bif (!y15.1) then
   some (0,0,())
  else
  some (y13.1.2.2.1,y13.1.1,())
  | .inr y14=>
  some (y14.1.1,y14.1.2.1,())
 else
 Option.bind (bif (au 224 (zap (ub x0))) then
  some (aX (zap (ub x0)) 240)
 else
 some false) fun b17=>
 bif b17 then
 bif (aX (len b) 3) then
  some (0,0,())
 else
 Option.bind (jm (n+1) b 3 2048 (C1 Go.IntKind.i64 (zap (ub x0)) 15) 1) fun y18=>
 match y18 with
  | .inl y19=>
  bif (aX y19.1.2.2.1 y19.1.2.1) then
   some (0,0,())
  else
  Option.bind (mb n y19.1.2.2.1) fun y21=>
  bif (!y21.1) then
   some (0,0,())
  else
  some (y19.1.2.2.1,y19.1.1,())
  | .inr y20=>
  some (y20.1.1,y20.1.2.1,())
 else
 Option.bind (bif (au 240 (zap (ub x0))) then
  some (aX (zap (ub x0)) 245)
 else
 some false) fun b23=>
 bif b23 then
 bif (aX (len b) 4) then
  some (0,0,())
 else
 Option.bind (jm (n+1) b 4 65536 (C1 Go.IntKind.i64 (zap (ub x0)) 7) 1) fun y24=>
 match y24 with
  | .inl y25=>
  bif (aX y25.1.2.2.1 y25.1.2.1) then
   some (0,0,())
  else
  Option.bind (mb n y25.1.2.2.1) fun y27=>
  bif (!y27.1) then
   some (0,0,())
  else
  some (y25.1.2.2.1,y25.1.1,())
  | .inr y26=>
  some (y26.1.1,y26.1.2.1,())
 else
 some (0,0,())
noncomputable def BT:aZ:=⟨86,[(false,(.cy .byte))],[(false,(.int .i64)),(false,(.int .i64))],1,fun n x=>sJ n x.1⟩
theorem MH (n:Nat):az Tryz.prog hint aI BT n:=
 az.of (hk:=fun β=>(aq.mk [An] [B2]).hk β) (sh:=aI) (fun m _=>ab.aC ((ab.nil.loop LK uj).fn L3) m) (fun x=>by kernel_rfl)
noncomputable def pU:Tm:=⟨[(4,.one (.all 64 3 (.int .i64) .ex))],[],64,65,1000⟩
noncomputable def xP:Tm:=⟨[(2,.one (.fix (TV.raw (Go.Value.slice (Option.none) 0 0)))),(3,.one (.bool))],[],64,64,1000⟩
noncomputable def K4:Tm:=⟨[(0,.one (.aT .byte)),(4,.one (.all 64 3 (.int .i64) .ex)),(5,.one (.int .i64))],[],64,65,1000⟩
noncomputable def xN:Nat->(List UInt8)->(List Int)->Int->Option ((((List Int)×Unit)×Unit)⊕((Unit×(Bool×Unit))×Unit))
 |0,_,_,_=>none
 |n+1,t0,t4,t5=>
 bif (aX t5 (len t0)) then
  bif ((au 0 t5) &&(au t5 (len t0))) then
  Option.bind (sJ (n+1) (List.take ((List.length t0) - (Int.toNat t5)) (List.drop (Int.toNat t5) t0))) fun y3=>
  bif (y3.2.1==0) then
  some (.inr (((),(false,())),()))
  else
  bif (room (((List.length t4)+(List.length (y3.1::([]:List Int))))*9)) then
  xN n t0 (t4++(y3.1::([]:List Int))) (zap (t5+y3.2.1))
  else none
  else none
 else
 some (.inl ((t4,()),()))
noncomputable def Eo:aO:=⟨62,3,none,K4,[(.exit 0,pU),(.ret,xP)],2,fun n x=>xN n x.1.1 x.1.2.1 x.1.2.2.1,[]⟩
theorem uC:pU.ok Tryz.prog hint:=Tm.cC rfl
theorem zN:xP.ok Tryz.prog hint:=Tm.cC rfl
theorem wh:K4.ok Tryz.prog hint:=Tm.cC rfl
theorem PL:∀ n,aw Tryz.prog hint aI Eo n:=
 aw.of (hk:=fun β=>(aq.mk [BT] []).hk β) (sh:=aI) (aQ.of (by kernel_rfl)) wh ⟨⟨uC,zam _,zam _⟩,⟨zN,zam _,zam _⟩,trivial⟩ (fun m=>ab.aC (ab.nil.fn MH) m)
  (fun _=>by kernel_rfl) (fun m x=>by kernel_rfl)
noncomputable def sP (n:Nat) (b:List UInt8):Option ((List Int)×(Bool×Unit)):=
 Option.bind (xN n b ([]:List Int) 0) fun y4=>
 match y4 with
 | .inl y5=>
  some (y5.1.1,true,())
 | .inr y6=>
  some (([]:List Int),y6.1.2.1,())
noncomputable def Bu:aZ:=⟨62,[(false,(.cy .byte))],[(false,(.cy (.int .i64))),(false,.bool)],2,fun n x=>sP n x.1⟩
theorem Nw (n:Nat):az Tryz.prog hint aI Bu n:=
 az.of (hk:=fun β=>(aq.mk [] [Eo]).hk β) (sh:=aI) (fun m _=>ab.aC (ab.nil.loop PL wh) m) (fun x=>by kernel_rfl)
noncomputable def tN (n:Nat) (s:List UInt8):Option ((List Int)×(Bool×Unit)):=
 Option.bind (sP n s) fun y0=>
 some (y0.1,y0.2.1,())
noncomputable def qW:aZ:=⟨42,[(false,.str)],[(false,(.cy (.int .i64))),(false,.bool)],3,fun n x=>tN n x.1⟩
theorem xS (n:Nat):az Tryz.prog hint aI qW n:=
 az.of (hk:=fun β=>(aq.mk [Bu] []).hk β) (sh:=aI) (fun m _=>ab.aC (ab.nil.fn Nw) m) (fun x=>by kernel_rfl)
noncomputable def G3 (_n:Nat) (c:Int):Option (Bool×Unit):=
 Option.bind (bif (au 48 c) then
  bif (au c 57) then
  some true
  else
  bif (au 97 c) then
  bif (au c 122) then
   some true
  else
  bif (au 65 c) then
   bif (au c 90) then
   some true
   else
   some (c==45)
  else
  some (c==45)
  else
  bif (au 65 c) then
  bif (au c 90) then
   some true
  else
  some (c==45)
  else
  some (c==45)
 else
 bif (au 97 c) then
  bif (au c 122) then
  some true
  else
  bif (au 65 c) then
  bif (au c 90) then
   some true
  else
  some (c==45)
  else
  some (c==45)
 else
 bif (au 65 c) then
  bif (au c 90) then
  some true
  else
  some (c==45)
 else
 some (c==45)) fun b1=>
 some (b1,())
noncomputable def vH:aZ:=⟨60,[(false,(.int .i64))],[(false,.bool)],0,fun n x=>G3 n x.1⟩
theorem FX (n:Nat):az Tryz.prog hint aI vH n:=
 az.of (hk:=fun β=>(aq.mk [] []).hk β) (sh:=aI) (fun m _=>ab.aC ab.nil m) (fun x=>by kernel_rfl)
noncomputable def Ra (_n:Nat) (c:Int):Option (Int×Unit):=
 Option.bind (bif (au 48 c) then
  some (au c 57)
 else
 some false) fun b1=>
 bif b1 then
 some ((zap (c - 48)),())
 else
 Option.bind (bif (au 97 c) then
  some (au c 102)
 else
 some false) fun b3=>
 bif b3 then
 some ((zap ((zap (c - 97))+10)),())
 else
 Option.bind (bif (au 65 c) then
  some (au c 70)
 else
 some false) fun b5=>
 bif b5 then
 some ((zap ((zap (c - 65))+10)),())
 else
 some ((-1),())
noncomputable def Ls:aZ:=⟨85,[(false,(.int .i64))],[(false,(.int .i64))],0,fun n x=>Ra n x.1⟩
theorem Su (n:Nat):az Tryz.prog hint aI Ls n:=
 az.of (hk:=fun β=>(aq.mk [] []).hk β) (sh:=aI) (fun m _=>ab.aC ab.nil m) (fun x=>by kernel_rfl)
noncomputable def oW:Tm:=⟨[],[],64,64,1000⟩
noncomputable def xZ:Tm:=⟨[(4,.one (.bool))],[],64,64,1000⟩
noncomputable def KL:Tm:=⟨[(0,.one (.str)),(1,.one (.int .i64)),(5,.one (.int .i64))],[],64,64,1000⟩
noncomputable def A5:Nat->(List UInt8)->Int->Int->Option ((Unit×Unit)⊕((Bool×Unit)×Unit))
 |0,_,_,_=>none
 |n+1,t0,t1,t5=>
 bif (aX t5 (len t0)) then
  bif (au 0 t5) then
  Option.bind (t0[(Int.toNat t5)]?) fun x2=>
  bif ((zap (ub x2))==t1) then
  some (.inr ((true,()),()))
  else
  A5 n t0 t1 (zap (t5+1))
  else none
 else
 some (.inl ((),()))
noncomputable def HB:aO:=⟨84,2,none,KL,[(.exit 0,oW),(.ret,xZ)],0,fun n x=>A5 n x.1.1 x.1.2.1 x.1.2.2.1,[]⟩
theorem uT:oW.ok Tryz.prog hint:=Tm.cC rfl
theorem zM:xZ.ok Tryz.prog hint:=Tm.cC rfl
theorem vM:KL.ok Tryz.prog hint:=Tm.cC rfl
theorem Q9:∀ n,aw Tryz.prog hint aI HB n:=
 aw.of (hk:=fun β=>(aq.mk [] []).hk β) (sh:=aI) (aQ.of (by kernel_rfl)) vM ⟨⟨uT,zam _,zam _⟩,⟨zM,zam _,zam _⟩,trivial⟩ (fun m=>ab.aC ab.nil m)
  (fun _=>by kernel_rfl) (fun m x=>by kernel_rfl)
noncomputable def dH (n:Nat) (s:List UInt8) (c:Int):Option (Bool×Unit):=
 Option.bind (A5 (n+1) s c 0) fun y3=>
 match y3 with
 | .inl _=>
  some (false,())
 | .inr y5=>
  some (y5.1.1,())
noncomputable def hY:aZ:=⟨84,[(false,.str),(false,(.int .i64))],[(false,.bool)],1,fun n x=>dH n x.1 x.2.1⟩
theorem jF (n:Nat):az Tryz.prog hint aI hY n:=
 az.of (hk:=fun β=>(aq.mk [] [HB]).hk β) (sh:=aI) (fun m _=>ab.aC (ab.nil.loop Q9 vM) m) (fun x=>by kernel_rfl)
noncomputable def RC (n:Nat) (l:List Int) (i:Int):Option (Int×Unit):=
 bif (au (len l) i) then
 some (0,())
 else
 bif (au 0 i) then
 Option.bind (l[(Int.toNat i)]?) fun x0=>
 Option.bind (G3 (n+1) x0) fun y1=>
 bif y1.1 then
 some (1,())
 else
 Option.bind (dH n ([35,59,47,63,58,64,38,61,43,36,44,95,46,33,126,42,39,40,41,91,93]:List UInt8) x0) fun y2=>
 bif y2.1 then
 some (1,())
 else
 bif (x0==37) then
 bif (aX (zap (i+2)) (len l)) then
  bif (au 0 (zap (i+1))) then
  Option.bind (l[(Int.toNat (zap (i+1)))]?) fun x3=>
  Option.bind (Ra (n+1) x3) fun y4=>
  bif (au 0 y4.1) then
  bif (au 0 (zap (i+2))) then
  Option.bind (l[(Int.toNat (zap (i+2)))]?) fun x5=>
  Option.bind (Ra (n+1) x5) fun y6=>
  bif (au 0 y6.1) then
   some (3,())
  else
  some (0,())
  else none
  else
  some (0,())
  else none
 else
 some (0,())
 else
 some (0,())
 else none
noncomputable def KA:aZ:=⟨61,[(false,(.cy (.int .i64))),(false,(.int .i64))],[(false,(.int .i64))],2,fun n x=>RC n x.1 x.2.1⟩
theorem S5 (n:Nat):az Tryz.prog hint aI KA n:=
 az.of (hk:=fun β=>(aq.mk [Ls,hY,vH] []).hk β) (sh:=aI) (fun m _=>ab.aC (((ab.nil.fn FX).fn jF).fn Su) m) (fun x=>by kernel_rfl)
noncomputable def qV:Tm:=⟨[],[],64,64,1000⟩
noncomputable def vL:Tm:=⟨[(2,.one (.bool))],[],64,64,1000⟩
noncomputable def La:Tm:=⟨[(3,.one (.aT (.int .i64))),(5,.one (.int .i64))],[],64,64,1000⟩
noncomputable def vX:Nat->(List Int)->Int->Option ((Unit×Unit)⊕((Bool×Unit)×Unit))
 |0,_,_=>none
 |n+1,t3,t5=>
 bif (aX t5 (len t3)) then
  Option.bind (RC (n+1) t3 t5) fun y5=>
  bif (y5.1==0) then
  some (.inr ((false,()),()))
  else
  vX n t3 (zap (t5+y5.1))
 else
 some (.inl ((),()))
noncomputable def EX:aO:=⟨41,5,none,La,[(.exit 0,qV),(.ret,vL)],3,fun n x=>vX n x.1.1 x.1.2.1,[]⟩
theorem ve:qV.ok Tryz.prog hint:=Tm.cC rfl
theorem zx:vL.ok Tryz.prog hint:=Tm.cC rfl
theorem wE:La.ok Tryz.prog hint:=Tm.cC rfl
theorem Q1:∀ n,aw Tryz.prog hint aI EX n:=
 aw.of (hk:=fun β=>(aq.mk [KA] []).hk β) (sh:=aI) (aQ.of (by kernel_rfl)) wE ⟨⟨ve,zam _,zam _⟩,⟨zx,zam _,zam _⟩,trivial⟩ (fun m=>ab.aC (ab.nil.fn S5) m)
  (fun _=>by kernel_rfl) (fun m x=>by kernel_rfl)
noncomputable def l7 (n:Nat) (tag:List UInt8):Option (Bool×Unit):=
 Option.bind (tN n tag) fun y0=>
 Option.bind (bif (!y0.2.1) then
  some true
 else
 some ((len y0.1)==0)) fun b2=>
 bif b2 then
 some (false,())
 else
 Option.bind (vX (n+1) y0.1 0) fun y6=>
 match y6 with
 | .inl _=>
  some (true,())
 | .inr y8=>
  some (y8.1.1,())
noncomputable def Bq:aZ:=⟨41,[(false,.str)],[(false,.bool)],4,fun n x=>l7 n x.1⟩
theorem Nb (n:Nat):az Tryz.prog hint aI Bq n:=
 az.of (hk:=fun β=>(aq.mk [qW] [EX]).hk β) (sh:=aI) (fun m _=>ab.aC ((ab.nil.fn xS).loop Q1 wE) m) (fun x=>by kernel_rfl)
noncomputable def kc (_n:Nat) (s:List UInt8) (x:List UInt8):Option (Bool×Unit):=
 bif (au (len x) (len s)) then
 bif (au (len x) (len s)) then
 some (((List.take ((Int.toNat (len x)) - 0) (List.drop 0 s))==x),())
 else none
 else
 some (false,())
noncomputable def oy:aZ:=⟨39,[(false,.str),(false,.str)],[(false,.bool)],0,fun n x=>kc n x.1 x.2.1⟩
theorem xU (n:Nat):az Tryz.prog hint aI oy n:=
 az.of (hk:=fun β=>(aq.mk [] []).hk β) (sh:=aI) (fun m _=>ab.aC ab.nil m) (fun x=>by kernel_rfl)
noncomputable def pW:Tm:=⟨[(0,.one (.str))],[],64,64,1000⟩
noncomputable def wC:Tm:=⟨[(2,.one (.bool))],[],64,64,1000⟩
noncomputable def Ke:Tm:=⟨[(0,.one (.str)),(3,.one (.int .i64))],[],64,64,1000⟩
noncomputable def Ap:Nat->(List UInt8)->Int->Option ((((List UInt8)×Unit)×Unit)⊕((Bool×Unit)×Unit))
 |0,_,_=>none
 |n+1,t0,t3=>
 bif (aX t3 (len t0)) then
  bif (au 0 t3) then
  Option.bind (t0[(Int.toNat t3)]?) fun x4=>
  Option.bind (G3 (n+1) (zap (ub x4))) fun y5=>
  bif (!y5.1) then
  some (.inr ((false,()),()))
  else
  Ap n t0 (zap (t3+1))
  else none
 else
 some (.inl ((t0,()),()))
noncomputable def F0:aO:=⟨40,2,none,Ke,[(.exit 0,pW),(.ret,wC)],1,fun n x=>Ap n x.1.1 x.1.2.1,[]⟩
theorem vh:pW.ok Tryz.prog hint:=Tm.cC rfl
theorem Ab:wC.ok Tryz.prog hint:=Tm.cC rfl
theorem yo:Ke.ok Tryz.prog hint:=Tm.cC rfl
theorem RB:∀ n,aw Tryz.prog hint aI F0 n:=
 aw.of (hk:=fun β=>(aq.mk [vH] []).hk β) (sh:=aI) (aQ.of (by kernel_rfl)) yo ⟨⟨vh,zam _,zam _⟩,⟨Ab,zam _,zam _⟩,trivial⟩ (fun m=>ab.aC (ab.nil.fn FX) m)
  (fun _=>by kernel_rfl) (fun m x=>by kernel_rfl)
noncomputable def rI (n:Nat) (s:List UInt8):Option (Bool×Unit):=
 Option.bind (Ap n s 0) fun y6=>
 match y6 with
 | .inl y7=>
  some ((!(y7.1.1==([]:List UInt8))),())
 | .inr y8=>
  some (y8.1.1,())
noncomputable def Bl:aZ:=⟨40,[(false,.str)],[(false,.bool)],1,fun n x=>rI n x.1⟩
theorem Ns (n:Nat):az Tryz.prog hint aI Bl n:=
 az.of (hk:=fun β=>(aq.mk [] [F0]).hk β) (sh:=aI) (fun m _=>ab.aC (ab.nil.loop RB yo) m) (fun x=>by kernel_rfl)
noncomputable def wD (n:Nat) (tag:List UInt8):Option ((List UInt8)×(Bool×Unit)):=
 Option.bind (kc (n+4) tag ([116,97,103,58,121,97,109,108,46,111,114,103,44,50,48,48,50,58]:List UInt8)) fun y0=>
 bif y0.1 then
 bif (au 18 (len tag)) then
 Option.bind (rI (n+3) (List.take ((List.length tag) - 18) (List.drop 18 tag))) fun y1=>
 bif y1.1 then
  bif (au 18 (len tag)) then
  bif (room ((List.length ([33,33]:List UInt8))+(List.length (List.take ((List.length tag) - 18) (List.drop 18 tag))))) then
  some ((([33,33]:List UInt8)++(List.take ((List.length tag) - 18) (List.drop 18 tag))),true,())
  else none
  else none
 else
 Option.bind (kc (n+4) tag ([33]:List UInt8)) fun y2=>
 bif y2.1 then
  bif (au 1 (len tag)) then
  Option.bind (rI (n+3) (List.take ((List.length tag) - 1) (List.drop 1 tag))) fun y3=>
  bif y3.1 then
  some (tag,true,())
  else
  Option.bind (l7 n tag) fun y4=>
  bif y4.1 then
  bif (room ((List.length ([60]:List UInt8))+(List.length tag))) then
  some ((([60]:List UInt8)++tag),true,())
  else none
  else
  some (([]:List UInt8),false,())
  else none
 else
 Option.bind (l7 n tag) fun y5=>
 bif y5.1 then
  bif (room ((List.length ([60]:List UInt8))+(List.length tag))) then
  some ((([60]:List UInt8)++tag),true,())
  else none
 else
 some (([]:List UInt8),false,())
 else none
 else
 Option.bind (kc (n+4) tag ([33]:List UInt8)) fun y6=>
 bif y6.1 then
 bif (au 1 (len tag)) then
 Option.bind (rI (n+3) (List.take ((List.length tag) - 1) (List.drop 1 tag))) fun y7=>
 bif y7.1 then
  some (tag,true,())
 else
 Option.bind (l7 n tag) fun y8=>
 bif y8.1 then
  bif (room ((List.length ([60]:List UInt8))+(List.length tag))) then
  some ((([60]:List UInt8)++tag),true,())
  else none
 else
 some (([]:List UInt8),false,())
 else none
 else
 Option.bind (l7 n tag) fun y9=>
 bif y9.1 then
 bif (room ((List.length ([60]:List UInt8))+(List.length tag))) then
 some ((([60]:List UInt8)++tag),true,())
 else none
 else
 some (([]:List UInt8),false,())
noncomputable def BE:aZ:=⟨21,[(false,.str)],[(false,.str),(false,.bool)],5,fun n x=>wD n x.1⟩
theorem Md (n:Nat):az Tryz.prog hint aI BE n:=
 az.of (hk:=fun β=>(aq.mk [Bq,Bl,oy] []).hk β) (sh:=aI) (fun m _=>ab.aC (((ab.nil.fn xU).fn Ns).fn Nb) m) (fun x=>by kernel_rfl)
noncomputable def ta (n:Nat) (c:Int) (flow:Bool):Option (Bool×Unit):=
 Option.bind (kR (n+2) c) fun y0=>
 bif y0.1 then
 Option.bind (bif (c==32) then
  some true
  else
  some (c==9)) fun b2=>
 bif (!b2) then
  bif (c !=10) then
  bif (c !=13) then
   bif (c !=65279) then
   bif flow then
    Option.bind (dH n ([44,91,93,123,125]:List UInt8) c) fun y3=>
    some ((!y3.1),())
   else
   some (true,())
   else
   some (false,())
  else
  some (false,())
  else
  some (false,())
 else
 some (false,())
 else
 some (false,())
noncomputable def wG:aZ:=⟨87,[(false,(.int .i64)),(false,.bool)],[(false,.bool)],3,fun n x=>ta n x.1 x.2.1⟩
theorem Ee (n:Nat):az Tryz.prog hint aI wG n:=
 az.of (hk:=fun β=>(aq.mk [hY,jZ] []).hk β) (sh:=aI) (fun m _=>ab.aC ((ab.nil.fn mA).fn jF) m) (fun x=>by kernel_rfl)
noncomputable def my (n:Nat) (l:List Int) (flow:Bool):Option (Bool×Unit):=
 bif ((len l)==0) then
 some (false,())
 else
 Option.bind (l[0]?) fun x0=>
 Option.bind (ta (n+1) x0 flow) fun y1=>
 bif (!y1.1) then
 some (false,())
 else
 Option.bind (l[0]?) fun x2=>
 Option.bind (bif (x2==45) then
  some true
 else
 bif (x2==63) then
  some true
 else
 some (x2==58)) fun b4=>
 bif b4 then
 bif (aX 1 (len l)) then
  Option.bind (l[1]?) fun x5=>
  Option.bind (ta n x5 flow) fun y6=>
  some (y6.1,())
 else
 some (false,())
 else
 Option.bind (dH (n+2) ([45,63,58,44,91,93,123,125,35,38,42,33,124,62,39,34,37,64,96]:List UInt8) x2) fun y7=>
 some ((!y7.1),())
noncomputable def qj:aZ:=⟨66,[(false,(.cy (.int .i64))),(false,.bool)],[(false,.bool)],5,fun n x=>my n x.1 x.2.1⟩
theorem DO (n:Nat):az Tryz.prog hint aI qj n:=
 az.of (hk:=fun β=>(aq.mk [hY,wG] []).hk β) (sh:=aI) (fun m _=>ab.aC ((ab.nil.fn Ee).fn jF) m) (fun x=>by kernel_rfl)
noncomputable def pZ:Tm:=⟨[(0,.one (.aT (.int .i64)))],[],64,64,1000⟩
noncomputable def yx:Tm:=⟨[(4,.one (.int .i64))],[],64,64,1000⟩
noncomputable def Li:Tm:=⟨[(0,.one (.aT (.int .i64))),(1,.one (.bool)),(5,.one (.int .i64))],[],64,64,1000⟩
noncomputable def cO:Nat->(List Int)->Bool->Int->Option ((((List Int)×Unit)×Unit)⊕((Int×Unit)×Unit))
 |0,_,_,_=>none
 |n+1,t0,t1,t5=>
 bif (aX t5 (len t0)) then
  bif (au 0 t5) then
  Option.bind (t0[(Int.toNat t5)]?) fun x30=>
  bif (x30==58) then
  bif (aX (zap (t5+1)) (len t0)) then
   bif (au 0 (zap (t5+1))) then
   Option.bind (t0[(Int.toNat (zap (t5+1)))]?) fun x31=>
   Option.bind (ta (n+1) x31 t1) fun y32=>
   bif (!y32.1) then
   some (.inr ((t5,()),()))
   else
   bif (x30==35) then
   bif (aX 0 t5) then
    bif (au 0 (zap (t5 - 1))) then
    Option.bind (t0[(Int.toNat (zap (t5 - 1)))]?) fun x33=>
    Option.bind (bif (x33==32) then
     some true
    else
    some (x33==9)) fun b35=>
    bif b35 then
    some (.inr ((t5,()),()))
    else
    bif t1 then
    Option.bind (dH (n+3) ([44,91,93,123,125]:List UInt8) x30) fun y36=>
    bif y36.1 then
     some (.inr ((t5,()),()))
    else
    cO n t0 t1 (zap (t5+1))
    else
    cO n t0 t1 (zap (t5+1))
    else none
   else
   bif t1 then
    Option.bind (dH (n+3) ([44,91,93,123,125]:List UInt8) x30) fun y37=>
    bif y37.1 then
    some (.inr ((t5,()),()))
    else
    cO n t0 t1 (zap (t5+1))
   else
   cO n t0 t1 (zap (t5+1))
   else
   bif t1 then
   Option.bind (dH (n+3) ([44,91,93,123,125]:List UInt8) x30) fun y38=>
   bif y38.1 then
    some (.inr ((t5,()),()))
   else
   cO n t0 t1 (zap (t5+1))
   else
   cO n t0 t1 (zap (t5+1))
   else none
  else
  some (.inr ((t5,()),()))
  else
  bif (x30==35) then
  bif (aX 0 t5) then
   bif (au 0 (zap (t5 - 1))) then
   Option.bind (t0[(Int.toNat (zap (t5 - 1)))]?) fun x39=>
   Option.bind (bif (x39==32) then
    some true
   else
   some (x39==9)) fun b41=>
   bif b41 then
   some (.inr ((t5,()),()))
   else
   bif t1 then
   Option.bind (dH (n+3) ([44,91,93,123,125]:List UInt8) x30) fun y42=>
   bif y42.1 then
    some (.inr ((t5,()),()))
   else
   cO n t0 t1 (zap (t5+1))
   else
   cO n t0 t1 (zap (t5+1))
   else none
  else
  bif t1 then
   Option.bind (dH (n+3) ([44,91,93,123,125]:List UInt8) x30) fun y43=>
   bif y43.1 then
   some (.inr ((t5,()),()))
   else
   cO n t0 t1 (zap (t5+1))
  else
  cO n t0 t1 (zap (t5+1))
  else
  bif t1 then
  Option.bind (dH (n+3) ([44,91,93,123,125]:List UInt8) x30) fun y44=>
  bif y44.1 then
   some (.inr ((t5,()),()))
  else
  cO n t0 t1 (zap (t5+1))
  else
  cO n t0 t1 (zap (t5+1))
  else none
 else
 some (.inl ((t0,()),()))
noncomputable def EC:aO:=⟨90,2,none,Li,[(.exit 0,pZ),(.ret,yx)],5,fun n x=>cO n x.1.1 x.1.2.1 x.1.2.2.1,[]⟩
theorem vc:pZ.ok Tryz.prog hint:=Tm.cC rfl
theorem zk:yx.ok Tryz.prog hint:=Tm.cC rfl
theorem xk:Li.ok Tryz.prog hint:=Tm.cC rfl
theorem Q6:∀ n,aw Tryz.prog hint aI EC n:=
 aw.of (hk:=fun β=>(aq.mk [hY,wG] []).hk β) (sh:=aI) (aQ.of (by kernel_rfl)) xk ⟨⟨vc,zam _,zam _⟩,⟨zk,zam _,zam _⟩,trivial⟩ (fun m=>ab.aC ((ab.nil.fn Ee).fn jF) m)
  (fun _=>by kernel_rfl) (fun m x=>by kernel_rfl)
noncomputable def Ko (n:Nat) (l:List Int) (flow:Bool):Option (Int×Unit):=
 Option.bind (cO n l flow 0) fun y45=>
 match y45 with
 | .inl y46=>
  some ((len y46.1.1),())
 | .inr y47=>
  some (y47.1.1,())
noncomputable def E4:aZ:=⟨90,[(false,(.cy (.int .i64))),(false,.bool)],[(false,(.int .i64))],5,fun n x=>Ko n x.1 x.2.1⟩
theorem OB (n:Nat):az Tryz.prog hint aI E4 n:=
 az.of (hk:=fun β=>(aq.mk [] [EC]).hk β) (sh:=aI) (fun m _=>ab.aC (ab.nil.loop Q6 xk) m) (fun x=>by kernel_rfl)
noncomputable def qx:Tm:=⟨[(5,.one (.int .i64))],[],64,64,1000⟩
noncomputable def Le:Tm:=⟨[(0,.one (.aT (.int .i64))),(5,.one (.int .i64))],[],64,64,1000⟩
noncomputable def FV:Nat->(List Int)->Int->Option ((Int×Unit)×Unit)
 |0,_,_=>none
 |n+1,t0,t5=>
 bif (aX 0 t5) then
  bif (au 0 (zap (t5 - 1))) then
  Option.bind (t0[(Int.toNat (zap (t5 - 1)))]?) fun x7=>
  Option.bind (bif (x7==32) then
   some true
  else
  some (x7==9)) fun b9=>
  bif b9 then
  FV n t0 (zap (t5 - 1))
  else
  some ((t5,()),())
  else none
 else
 some ((t5,()),())
noncomputable def Gh:aO:=⟨67,2,none,Le,[(.exit 0,qx)],1,fun n x=>FV n x.1.1 x.1.2.1,[]⟩
theorem uV:qx.ok Tryz.prog hint:=Tm.cC rfl
theorem xQ:Le.ok Tryz.prog hint:=Tm.cC rfl
theorem QI:∀ n,aw Tryz.prog hint aI Gh n:=
 aw.of (hk:=fun β=>(aq.mk [] []).hk β) (sh:=aI) (aQ.of (by kernel_rfl)) xQ ⟨⟨uV,zam _,zam _⟩,trivial⟩ (fun m=>ab.aC ab.nil m)
  (fun _=>by kernel_rfl) (fun m x=>by kernel_rfl)
noncomputable def mz (n:Nat) (l:List Int) (flow:Bool):Option (Int×Unit):=
 Option.bind (Ko n l flow) fun y0=>
 Option.bind (FV (n+5) l y0.1) fun y10=>
 some (y10.1.1,())
noncomputable def qJ:aZ:=⟨67,[(false,(.cy (.int .i64))),(false,.bool)],[(false,(.int .i64))],6,fun n x=>mz n x.1 x.2.1⟩
theorem DX (n:Nat):az Tryz.prog hint aI qJ n:=
 az.of (hk:=fun β=>(aq.mk [E4] [Gh]).hk β) (sh:=aI) (fun m _=>ab.aC ((ab.nil.fn OB).loop QI xQ) m) (fun x=>by kernel_rfl)
noncomputable def pI:Tm:=⟨[],[],64,64,1000⟩
noncomputable def wz:Tm:=⟨[(2,.one (.bool))],[],64,64,1000⟩
noncomputable def KX:Tm:=⟨[(0,.one (.aT (.int .i64))),(3,.one (.int .i64))],[],64,64,1000⟩
noncomputable def BS:Nat->(List Int)->Int->Option ((Unit×Unit)⊕((Bool×Unit)×Unit))
 |0,_,_=>none
 |n+1,t0,t3=>
 bif (aX t3 (len t0)) then
  bif (au 0 t3) then
  Option.bind (t0[(Int.toNat t3)]?) fun x10=>
  Option.bind (kR (n+1) x10) fun y11=>
  bif (!y11.1) then
  some (.inr ((false,()),()))
  else
  bif (au 0 t3) then
  Option.bind (t0[(Int.toNat t3)]?) fun x12=>
  bif (x12==10) then
  some (.inr ((false,()),()))
  else
  bif (au 0 t3) then
  Option.bind (t0[(Int.toNat t3)]?) fun x13=>
  bif (x13==13) then
  some (.inr ((false,()),()))
  else
  bif (au 0 t3) then
  Option.bind (t0[(Int.toNat t3)]?) fun x14=>
  bif (x14==65279) then
  some (.inr ((false,()),()))
  else
  BS n t0 (zap (t3+1))
  else none
  else none
  else none
  else none
 else
 some (.inl ((),()))
noncomputable def HF:aO:=⟨68,2,none,KX,[(.exit 0,pI),(.ret,wz)],1,fun n x=>BS n x.1.1 x.1.2.1,[]⟩
theorem uA:pI.ok Tryz.prog hint:=Tm.cC rfl
theorem zL:wz.ok Tryz.prog hint:=Tm.cC rfl
theorem we:KX.ok Tryz.prog hint:=Tm.cC rfl
theorem N8:∀ n,aw Tryz.prog hint aI HF n:=
 aw.of (hk:=fun β=>(aq.mk [jZ] []).hk β) (sh:=aI) (aQ.of (by kernel_rfl)) we ⟨⟨uA,zam _,zam _⟩,⟨zL,zam _,zam _⟩,trivial⟩ (fun m=>ab.aC (ab.nil.fn mA) m)
  (fun _=>by kernel_rfl) (fun m x=>by kernel_rfl)
noncomputable def singleR (n:Nat) (l:List Int):Option (Bool×Unit):=
 Option.bind (BS n l 0) fun y15=>
 match y15 with
 | .inl _=>
  some (true,())
 | .inr y17=>
  some (y17.1.1,())
noncomputable def wS:aZ:=⟨68,[(false,(.cy (.int .i64)))],[(false,.bool)],1,fun n x=>singleR n x.1⟩
theorem IE (n:Nat):az Tryz.prog hint aI wS n:=
 az.of (hk:=fun β=>(aq.mk [] [HF]).hk β) (sh:=aI) (fun m _=>ab.aC (ab.nil.loop N8 we) m) (fun x=>by kernel_rfl)
noncomputable def qh:Tm:=⟨[],[],64,64,1000⟩
noncomputable def xE:Tm:=⟨[(2,.one (.bool))],[],64,64,1000⟩
noncomputable def K8:Tm:=⟨[(0,.one (.aT (.int .i64))),(3,.one (.int .i64))],[],64,64,1000⟩
noncomputable def lY:Nat->(List Int)->Int->Option ((Unit×Unit)⊕((Bool×Unit)×Unit))
 |0,_,_=>none
 |n+1,t0,t3=>
 bif (aX t3 (len t0)) then
  bif (au 0 t3) then
  Option.bind (t0[(Int.toNat t3)]?) fun x16=>
  Option.bind (bif (x16==32) then
   some true
  else
  some (x16==9)) fun b18=>
  bif (!b18) then
  lY n t0 (zap (t3+1))
  else
  bif (t3==0) then
  some (.inr ((false,()),()))
  else
  bif (au 0 (zap (t3 - 1))) then
  Option.bind (t0[(Int.toNat (zap (t3 - 1)))]?) fun x19=>
  bif (x19==10) then
  some (.inr ((false,()),()))
  else
  bif ((zap (t3+1))==(len t0)) then
  some (.inr ((false,()),()))
  else
  bif (au 0 (zap (t3+1))) then
  Option.bind (t0[(Int.toNat (zap (t3+1)))]?) fun x20=>
  bif (x20==10) then
  some (.inr ((false,()),()))
  else
  bif (au 0 (zap (t3+1))) then
  Option.bind (t0[(Int.toNat (zap (t3+1)))]?) fun x21=>
  Option.bind (bif (x21==32) then
   some true
  else
  some (x21==9)) fun b23=>
  bif b23 then
  some (.inr ((false,()),()))
  else
  lY n t0 (zap (t3+1))
  else none
  else none
  else none
  else none
 else
 some (.inl ((),()))
noncomputable def Eg:aO:=⟨69,2,none,K8,[(.exit 0,qh),(.ret,xE)],1,fun n x=>lY n x.1.1 x.1.2.1,[]⟩
theorem uN:qh.ok Tryz.prog hint:=Tm.cC rfl
theorem zS:xE.ok Tryz.prog hint:=Tm.cC rfl
theorem wq:K8.ok Tryz.prog hint:=Tm.cC rfl
theorem QY:∀ n,aw Tryz.prog hint aI Eg n:=
 aw.of (hk:=fun β=>(aq.mk [] []).hk β) (sh:=aI) (aQ.of (by kernel_rfl)) wq ⟨⟨uN,zam _,zam _⟩,⟨zS,zam _,zam _⟩,trivial⟩ (fun m=>ab.aC ab.nil m)
  (fun _=>by kernel_rfl) (fun m x=>by kernel_rfl)
noncomputable def kb (n:Nat) (l:List Int):Option (Bool×Unit):=
 Option.bind (lY n l 0) fun y24=>
 match y24 with
 | .inl _=>
  some (true,())
 | .inr y26=>
  some (y26.1.1,())
noncomputable def pr:aZ:=⟨69,[(false,(.cy (.int .i64)))],[(false,.bool)],1,fun n x=>kb n x.1⟩
theorem Dk (n:Nat):az Tryz.prog hint aI pr n:=
 az.of (hk:=fun β=>(aq.mk [] [Eg]).hk β) (sh:=aI) (fun m _=>ab.aC (ab.nil.loop QY wq) m) (fun x=>by kernel_rfl)
noncomputable def nh:Tm:=⟨[(0,.one (.int .i64)),(7,.one (.aT (.int .i64)))],[],64,64,1000⟩
noncomputable def uc:Tm:=⟨[(6,.one (.bool))],[],64,64,1000⟩
noncomputable def Ea:Tm:=⟨[(0,.one (.int .i64)),(7,.one (.aT (.int .i64))),(9,.one (.int .i64))],[],64,64,1000⟩
noncomputable def oO:Nat->Int->(List Int)->Int->Option (((Int×((List Int)×Unit))×Unit)⊕((Bool×Unit)×Unit))
 |0,_,_,_=>none
 |n+1,t0,t7,t9=>
 bif (aX t9 (len t7)) then
  bif (au 0 t9) then
  Option.bind (t7[(Int.toNat t9)]?) fun x17=>
  Option.bind (kR (n+1) x17) fun y18=>
  bif (!y18.1) then
  some (.inr ((false,()),()))
  else
  bif (au 0 t9) then
  Option.bind (t7[(Int.toNat t9)]?) fun x19=>
  bif (x19==13) then
  some (.inr ((false,()),()))
  else
  bif (au 0 t9) then
  Option.bind (t7[(Int.toNat t9)]?) fun x20=>
  bif (x20==65279) then
  some (.inr ((false,()),()))
  else
  oO n t0 t7 (zap (t9+1))
  else none
  else none
  else none
 else
 some (.inl ((t0,(t7,())),()))
noncomputable def A9:aO:=⟨44,19,none,Ea,[(.exit 1,nh),(.ret,uc)],1,fun n x=>oO n x.1.1 x.1.2.1 x.1.2.2.1,[]⟩
theorem rO:nh.ok Tryz.prog hint:=Tm.cC rfl
theorem wi:uc.ok Tryz.prog hint:=Tm.cC rfl
theorem tF:Ea.ok Tryz.prog hint:=Tm.cC rfl
theorem LF:∀ n,aw Tryz.prog hint aI A9 n:=
 aw.of (hk:=fun β=>(aq.mk [jZ] []).hk β) (sh:=aI) (aQ.of (by kernel_rfl)) tF ⟨⟨rO,zam _,zam _⟩,⟨wi,zam _,zam _⟩,trivial⟩ (fun m=>ab.aC (ab.nil.fn mA) m)
  (fun _=>by kernel_rfl) (fun m x=>by kernel_rfl)
noncomputable def Sl (n:Nat) (style:Int) (s:List UInt8) (flow:Bool):Option (Bool×Unit):=
 Option.bind (tN (n+3) s) fun y0=>
 bif (!y0.2.1) then
 some (false,())
 else
 bif (style==1) then
 Option.bind (my (n+1) y0.1 true) fun y1=>
 bif (!y1.1) then
  some (false,())
 else
 Option.bind (mz n y0.1 true) fun y2=>
 bif (y2.1 !=(len y0.1)) then
  some (false,())
 else
 Option.bind (kc (n+6) s ([45,45,45]:List UInt8)) fun y3=>
 bif y3.1 then
  some (false,())
 else
 Option.bind (kc (n+6) s ([46,46,46]:List UInt8)) fun y4=>
 bif y4.1 then
  some (false,())
 else
 Option.bind (singleR (n+5) y0.1) fun y5=>
 some (y5.1,())
 else
 bif (style==2) then
 Option.bind (singleR (n+5) y0.1) fun y6=>
 some (y6.1,())
 else
 bif (style==3) then
 some (true,())
 else
 bif (style==4) then
 Option.bind (bif flow then
  some true
  else
  some (s==([]:List UInt8))) fun b8=>
 bif b8 then
  some (false,())
 else
 Option.bind (oO (n+6) style y0.1 0) fun y21=>
 match y21 with
  | .inl y22=>
  bif (y22.1.1==4) then
   some (true,())
  else
  Option.bind (kb (n+5) y22.1.2.1) fun y24=>
  some (y24.1,())
  | .inr y23=>
  some (y23.1.1,())
 else
 bif (style==5) then
 Option.bind (bif flow then
  some true
  else
  some (s==([]:List UInt8))) fun b26=>
 bif b26 then
  some (false,())
 else
 Option.bind (oO (n+6) style y0.1 0) fun y27=>
 match y27 with
  | .inl y28=>
  bif (y28.1.1==4) then
   some (true,())
  else
  Option.bind (kb (n+5) y28.1.2.1) fun y30=>
  some (y30.1,())
  | .inr y29=>
  some (y29.1.1,())
 else
 some (false,())
noncomputable def Kj:aZ:=⟨44,[(false,(.int .i64)),(false,.str),(false,.bool)],[(false,.bool)],7,fun n x=>Sl n x.1 x.2.1 x.2.2.1⟩
theorem SD (n:Nat):az Tryz.prog hint aI Kj n:=
 az.of (hk:=fun β=>(aq.mk [pr,wS,oy,qJ,qj,qW] [A9]).hk β) (sh:=aI) (fun m _=>ab.aC (((((((ab.nil.fn xS).fn DO).fn DX).fn xU).fn IE).loop LF tF).fn Dk) m) (fun x=>by kernel_rfl)
noncomputable def qK:Tm:=⟨[(0,.one (.str)),(4,.one (.bool))],[],64,64,1000⟩
noncomputable def KO:Tm:=⟨[(0,.one (.str)),(3,.one (.aT (.int .i64))),(4,.one (.bool)),(5,.one (.int .i64))],[],64,64,1000⟩
noncomputable def lb:Nat->(List UInt8)->(List Int)->Bool->Int->Option (((List UInt8)×(Bool×Unit))×Unit)
 |0,_,_,_,_=>none
 |n+1,t0,t3,t4,t5=>
 bif (aX t5 (len t3)) then
  bif t4 then
  bif (au 0 t5) then
  Option.bind (t3[(Int.toNat t5)]?) fun x11=>
  Option.bind (kR (n+3) x11) fun y12=>
  bif y12.1 then
   Option.bind (bif (x11==32) then
    some true
   else
   some (x11==9)) fun b14=>
   bif (!b14) then
   bif (x11 !=10) then
    bif (x11 !=13) then
    bif (x11 !=65279) then
     Option.bind (dH (n+1) ([44,91,93,123,125]:List UInt8) x11) fun y15=>
     lb n t0 t3 (!y15.1) (zap (t5+1))
    else
    lb n t0 t3 false (zap (t5+1))
    else
    lb n t0 t3 false (zap (t5+1))
   else
   lb n t0 t3 false (zap (t5+1))
   else
   lb n t0 t3 false (zap (t5+1))
  else
  lb n t0 t3 false (zap (t5+1))
  else none
  else
  lb n t0 t3 false (zap (t5+1))
 else
 some ((t0,(t4,())),())
noncomputable def El:aO:=⟨22,3,none,KO,[(.exit 0,qK)],4,fun n x=>lb n x.1.1 x.1.2.1 x.1.2.2.1 x.1.2.2.2.1,[]⟩
theorem vi:qK.ok Tryz.prog hint:=Tm.cC rfl
theorem wB:KO.ok Tryz.prog hint:=Tm.cC rfl
theorem QH:∀ n,aw Tryz.prog hint aI El n:=
 aw.of (hk:=fun β=>(aq.mk [hY,jZ] []).hk β) (sh:=aI) (aQ.of (by kernel_rfl)) wB ⟨⟨vi,zam _,zam _⟩,trivial⟩ (fun m=>ab.aC ((ab.nil.fn mA).fn jF) m)
  (fun _=>by kernel_rfl) (fun m x=>by kernel_rfl)
noncomputable def DD (n:Nat) (s:List UInt8):Option (Bool×Unit):=
 Option.bind (tN n s) fun y0=>
 Option.bind (lb n s y0.1 y0.2.1 0) fun y16=>
 Option.bind (bif y16.1.2.1 then
  some (au (len y16.1.1) 200)
 else
 some false) fun b18=>
 some (b18,())
noncomputable def BH:aZ:=⟨22,[(false,.str)],[(false,.bool)],4,fun n x=>DD n x.1⟩
theorem Mi (n:Nat):az Tryz.prog hint aI BH n:=
 az.of (hk:=fun β=>(aq.mk [qW] [El]).hk β) (sh:=aI) (fun m _=>ab.aC ((ab.nil.fn xS).loop QH wB) m) (fun x=>by kernel_rfl)
set_option maxRecDepth 10000
theorem WW {α:Type} (l:List α) (k:Nat):List.take (l.length - k) (List.drop k l)=List.drop k l:=List.take_of_length_le (by simp)
theorem aH {α:Type} {l r:List α} {i:Nat} (h:l.drop i=r) (k:Nat):l[i+k]? =r[k]? :=by rw [←h,List.getElem?_drop]
theorem bQ {n:Nat} (h:n<=1099511627776):room n=true:=JX h
def LD (c:Int):Bool:=decide (0<=c/\c<=1114111/\(c<55296∨57343<c))
theorem Je (n:Nat) (c:Int):mb n c=some (LD c,()):=by
 unfold mb LD;rw [dc,dc,eO,eO];by_cases h1:(0:Int)<=c<;>by_cases h2:c<=1114111<;>by_cases h3:c<55296<;>simp only [h1,h2,h3,decide_true,decide_false,zac,zab,true_and,false_and,true_or,false_or,Bool.decide_and,zaa]
def cont (x:UInt8):Prop:=128<=ub x/\ub x<=191
instance (x:UInt8):Decidable (cont x):=inferInstanceAs (Decidable (_/\_))
def v2 (a b:UInt8):Int:=(ub a%32)*64+ub b%64
def v3 (a b c:UInt8):Int:=((ub a%16)*64+ub b%64)*64+ub c%64
def v4 (a b c d:UInt8):Int:=(((ub a%8)*64+ub b%64)*64+ub c%64)*64+ub d%64
def pt:List UInt8->Option (Int×Nat)
 | []=>none
 |a::r=>
  if ub a<128 then some (ub a,1)
  else if ub a<194 then none
  else if ub a<224 then match r with
   |b::_=>if cont b then some (v2 a b,2) else none
   |_=>none
  else if ub a<240 then match r with
   |b::c::_=>if cont b/\cont c/\2048<=v3 a b c/\LD (v3 a b c)=true then some (v3 a b c,3) else none
   |_=>none
  else if ub a<245 then match r with
   |b::c::d::_=>if cont b/\cont c/\cont d/\65536<=v4 a b c d/\LD (v4 a b c d)=true then some (v4 a b c d,4) else none
   |_=>none
  else none
theorem Aw {l:List UInt8} {c:Int} {k:Nat} (h:pt l=some (c,k)):LD c=true/\1<=k/\k<=l.length/\0<=c/\c<=1114111:=by
 have fin:∀ {c:Int} {k:Nat},LD c=true->1<=k->k<=l.length->LD c=true/\1<=k/\k<=l.length/\0<=c/\c<=1114111:=fun h1 h2 h3=>by
  have:=of_decide_eq_true h1;exact ⟨h1,h2,h3,by omega,by omega⟩
 unfold pt at h
 match l,h with
 |a::r,h=>
  have ha:=iz a;dsimp only at h;split at h
  ·cases h;exact fin (decide_eq_true (by omega)) (by omega) (by simp)
  split at h
  ·cases h
  split at h
  ·split at h
   ·split at h
    ·cases h
     refine fin (decide_eq_true ?_) (by omega) (by simp);unfold v2;omega
    ·cases h
   ·cases h
  split at h
  ·split at h
   ·split at h
    ·rename_i hh;cases h;exact fin hh.2.2.2 (by omega) (by simp)
    ·cases h
   ·cases h
  split at h
  ·split at h
   ·split at h
    ·rename_i hh;cases h;exact fin hh.2.2.2.2 (by omega) (by simp)
    ·cases h
   ·cases h
  ·cases h
theorem Wq {x:Int} (h1:0<=x) (h2:x<1000):C1 .i64 x 63=x%64:=oS 6 (by decide) x h1 (by omega)
theorem Wd {x:Int} (h1:0<=x) (h2:x<1000):C1 .i64 x 31=x%32:=oS 5 (by decide) x h1 (by omega)
theorem Wj {x:Int} (h1:0<=x) (h2:x<1000):C1 .i64 x 15=x%16:=oS 4 (by decide) x h1 (by omega)
theorem and7 {x:Int} (h1:0<=x) (h2:x<1000):C1 .i64 x 7=x%8:=oS 3 (by decide) x h1 (by omega)
theorem AH (n:Nat) (b:List UInt8) (N L c:Int) (k:Nat) (y:UInt8) (hk:b[k]? =some y) (hN:(k:Int)<N) (hN2:N<100) (h1:0<=c) (h2:c<1099511627776):
  jm (n+1) b N L c (k:Int)=if cont y then jm n b N L (c*64+ub y%64) ((k+1:Nat):Int) else some (.inr ((0,(0,())),())):=by
 have hy:=iz y;have w:zap ((k:Int)+1)=((k+1:Nat):Int):=by rw [af]<;>omega
 have e0:(Int.toNat (k:Int))=k:=rfl
 conv=>lhs;unfold jm
 simp only [aB hN,ao (show (0:Int)<=k by omega),zac,e0,hk,zaa,dK,w];by_cases h3:ub y<128
 ·rw [aB h3,if_neg (fun h=>by have:=h.1;omega)];rfl
 ·rw [aR (show 128<=ub y by omega),zab]
  by_cases h4:191<ub y
  ·rw [aB h4,if_neg (fun h=>by have:=h.2;omega)];rfl
  ·rw [aR (show ub y<=191 by omega),if_pos ⟨by omega,by omega⟩]
   simp only [zaa,zab];rw [Wq (by omega) (by omega),af (x:=c*64) (by omega) (by omega),af (by omega) (by omega)]
theorem Vr (n:Nat) (b:List UInt8) (N L c:Int):jm (n+1) b N L c N=some (.inl ((N,(L,(c,()))),())):=by
 simp only [jm,aR (show N<=N by omega),zab]
def rp:Option (Int×Nat)->Int×(Int×Unit)
 |some (c,k)=>(c,((k:Int),()))
 |none=>(0,(0,()))
theorem rK (n:Nat) (L c N:Int):
  (bif Go.Iv.aX c L then some (0,(0,())) else Option.bind (mb n c) fun y=>bif !y.1 then some (0,(0,())) else some (c,(N,())))=if L<=c/\LD c=true then some (c,(N,())) else some ((0:Int),((0:Int),())):=by
 rw [Je];by_cases h:c<L
 ·rw [aB h,if_neg (fun hh=>by omega)];rfl
 ·rw [aR (by omega)]
  cases LD c with
  |false=>rw [if_neg (fun hh=>by cases hh.2)];rfl
  |true=>rw [if_pos ⟨by omega,rfl⟩];rfl
theorem E8 (n:Nat) (a:UInt8) (r:List UInt8) (hn:10<=n) (hr:r.length<10000000):sJ n (a::r)=some (rp (pt (a::r))):=by
 obtain ⟨n,rfl⟩:∃ m,n=m+10:=⟨n - 10,by omega⟩;have ha:=iz a;have hp:=pt.eq_def (a::r);dsimp only at hp;rw [hp];unfold sJ;simp only [List.getElem?_cons_zero,zaa,dK,len];by_cases h1:ub a<128
 ·rw [aB h1,if_pos h1];rfl
 rw [aR (show 128<=ub a by omega),if_neg h1];simp only [zac,zab,zaa];by_cases h2:ub a<194
 ·rw [kZ h2,if_pos h2,kZ (show ub a<224 by omega),kZ (show ub a<240 by omega)];rfl
 rw [ao (show 194<=ub a by omega),if_neg h2];simp only [zac,zab,zaa];by_cases h3:ub a<224
 ·rw [aB h3,if_pos h3]
  simp only [zac,zab,zaa]
  match r,hr with
  | [],_=>rfl
  |b::s,hr=>
   have hb:=iz b;simp only [zad] at hr ⊢;rw [aR (show (2:Int)<=((s.length+1+1:Nat):Int) by omega),Wd (by omega) (by omega)];have s1:=AH (n+10) (a::b::s) 2 128 (ub a%32) 1 b rfl (by decide) (by decide) (by omega) (by omega);have s2:=Vr (n+9) (a::b::s) 2 128 (ub a%32*64+ub b%64);simp only [zac,zab,zaa];refine (congrArg (fun z=>Option.bind z _) s1).trans ?_;by_cases hc:cont b
   ·rw [if_pos hc,if_pos hc]
    refine (congrArg (fun z=>Option.bind z _) s2).trans ?_;simp only [zaa];rw [rK,if_pos ⟨by omega,decide_eq_true (by omega)⟩];rfl
   ·rw [if_neg hc,if_neg hc];rfl
 rw [aR (show 224<=ub a by omega),if_neg h3];simp only [zac,zab,zaa];rw [ao (show 224<=ub a by omega)];simp only [zac,zab,zaa];by_cases h4:ub a<240
 ·rw [aB h4,if_pos h4]
  simp only [zac,zab,zaa]
  match r,hr with
  | [],_=>rfl
  | [b],_=>rfl
  |b::c::s,hr=>
   have hb:=iz b;have hc:=iz c;simp only [zad] at hr ⊢;rw [aR (show (3:Int)<=((s.length+1+1+1:Nat):Int) by omega),Wj (by omega) (by omega)];have s1:=AH (n+10) (a::b::c::s) 3 2048 (ub a%16) 1 b rfl (by decide) (by decide) (by omega) (by omega);have s2:=AH (n+9) (a::b::c::s) 3 2048 (ub a%16*64+ub b%64) 2 c rfl (by decide) (by decide) (by omega) (by omega);have s3:=Vr (n+8) (a::b::c::s) 3 2048 (v3 a b c);simp only [zac,zab,zaa];refine (congrArg (fun z=>Option.bind z _) s1).trans ?_;by_cases hb2:cont b
   ·rw [if_pos hb2]
    refine (congrArg (fun z=>Option.bind z _) s2).trans ?_;by_cases hc2:cont c
    ·rw [if_pos hc2]
     refine (congrArg (fun z=>Option.bind z _) s3).trans ?_;simp only [zaa];rw [rK];by_cases hv:2048<=v3 a b c/\LD (v3 a b c)=true
     ·rw [if_pos hv,if_pos ⟨hb2,hc2,hv⟩];rfl
     ·rw [if_neg hv,if_neg (fun h=>hv h.2.2)];rfl
    ·rw [if_neg hc2,if_neg (fun h=>hc2 h.2.1)];rfl
   ·rw [if_neg hb2,if_neg (fun h=>hb2 h.1)];rfl
 rw [aR (show 240<=ub a by omega),if_neg h4];simp only [zac,zab,zaa];rw [ao (show 240<=ub a by omega)];simp only [zac,zab,zaa];by_cases h5:ub a<245
 ·rw [aB h5,if_pos h5]
  simp only [zac,zab,zaa]
  match r,hr with
  | [],_=>rfl
  | [b],_=>rfl
  | [b,c],_=>rfl
  |b::c::d::s,hr=>
   have hb:=iz b;have hc:=iz c;have hd:=iz d;simp only [zad] at hr ⊢;rw [aR (show (4:Int)<=((s.length+1+1+1+1:Nat):Int) by omega),and7 (by omega) (by omega)];have s1:=AH (n+10) (a::b::c::d::s) 4 65536 (ub a%8) 1 b rfl (by decide) (by decide) (by omega) (by omega);have s2:=AH (n+9) (a::b::c::d::s) 4 65536 (ub a%8*64+ub b%64) 2 c rfl (by decide) (by decide) (by omega) (by omega);have s3:=AH (n+8) (a::b::c::d::s) 4 65536 ((ub a%8*64+ub b%64)*64+ub c%64) 3 d rfl (by decide) (by decide) (by omega) (by omega);have s4:=Vr (n+7) (a::b::c::d::s) 4 65536 (v4 a b c d);simp only [zac,zab,zaa];refine (congrArg (fun z=>Option.bind z _) s1).trans ?_;by_cases hb2:cont b
   ·rw [if_pos hb2]
    refine (congrArg (fun z=>Option.bind z _) s2).trans ?_;by_cases hc2:cont c
    ·rw [if_pos hc2]
     refine (congrArg (fun z=>Option.bind z _) s3).trans ?_;by_cases hd2:cont d
     ·rw [if_pos hd2]
      refine (congrArg (fun z=>Option.bind z _) s4).trans ?_;simp only [zaa];rw [rK];by_cases hv:65536<=v4 a b c d/\LD (v4 a b c d)=true
      ·rw [if_pos hv,if_pos ⟨hb2,hc2,hd2,hv⟩];rfl
      ·rw [if_neg hv,if_neg (fun h=>hv h.2.2.2)];rfl
     ·rw [if_neg hd2,if_neg (fun h=>hd2 h.2.2.1)];rfl
    ·rw [if_neg hc2,if_neg (fun h=>hc2 h.2.1)];rfl
   ·rw [if_neg hb2,if_neg (fun h=>hb2 h.1)];rfl
 rw [aR (show 245<=ub a by omega),if_neg h5];rfl
attribute [local irreducible] sJ pt sP mb
def d8:Nat->List UInt8->Option (List Int)
 |_,[]=>some []
 |0,_::_=>none
 |n+1,a::r=>match pt (a::r) with
  |none=>none
  |some (c,k)=>(d8 n ((a::r).drop k)).map (c::·)
theorem sR (b:List UInt8) (hb:b.length<4194304):∀ (m:Nat) (r:List UInt8) (n i:Nat) (o:List Int),r.length<=m->b.drop i=r->i<=b.length->o.length+r.length<10000000->m+12<=n->
  xN n b o (i:Int)=match d8 m r with
   |some xs=>some (.inl ((o++xs,()),()))
   |none=>some (.inr (((),(false,())),())):=by
 intro m
 induction m with
 |zero=>
  intro r n i o hm hr hi ho hn;obtain ⟨n,rfl⟩:∃ k,n=k+1:=⟨n - 1,by omega⟩;have:r= []:=List.length_eq_zero_iff.1 (by omega);subst this;have hlen:b.length<=i:=by simpa using hr
  simp only [xN,len,aR (show (b.length:Int)<=i by omega),zab,d8,List.append_nil]
 |succ m ih=>
  intro r n i o hm hr hi ho hn;obtain ⟨n,rfl⟩:∃ k,n=k+1:=⟨n - 1,by omega⟩;have hlen:b.length=i+r.length:=by rw [←hr];simp;omega
  cases r with
  |nil=>
   simp at hlen;simp only [xN,len,aR (show (b.length:Int)<=i by omega),zab,d8,List.append_nil]
  |cons a r=>
   simp only [zad] at hlen hm ho;have e0:(Int.toNat (i:Int))=i:=rfl;have hd0:List.take (b.length - i) (List.drop i b)=a::r:=(WW b i).trans hr;simp only [xN,len,aB (show (i:Int)<b.length by omega),ao (show (0:Int)<=i by omega),ao (show (i:Int)<=b.length by omega),zai,zac,e0,hd0,E8 (n+1) a r (by omega) (by omega),zaa,d8];cases hp:pt (a::r) with
   |none=>rfl
   |some q=>
    obtain ⟨c,k⟩:=q;obtain ⟨k1,k2,k3,k4,k5⟩:=Aw hp;simp only [zad] at k3;have w:zap ((i:Int)+k)=((i+k:Nat):Int):=by rw [af]<;>omega
    have z:((k:Int)==0)=false:=by rw [beq_eq_false_iff_ne];omega
    have hd:b.drop (i+k)=(a::r).drop k:=by rw [←zal,hr]
    simp only [rp,z,zab,zad,zah,bQ (show (o.length+(0+1))*9<=1099511627776 by omega),zac,w];rw [ih ((a::r).drop k) n (i+k) (o++ [c]) (by simp;omega) hd (by omega) (by simp;omega) (by omega)];cases d8 m ((a::r).drop k) with
    |none=>rfl
    |some xs=>simp only [Option.map_some,List.append_assoc,List.cons_append,List.nil_append]
theorem Fv (n:Nat) (b:List UInt8) (hb:b.length<4194304) (hn:b.length+12<=n):sP n b=some (match d8 b.length b with
  |some xs=>(xs,(true,()))
  |none=>([],(false,()))):=by
 unfold sP;rw [show (0:Int)=((0:Nat):Int) from rfl,sR b hb b.length b n 0 [] (by omega) rfl (by omega) (by simp;omega) hn];cases d8 b.length b<;>rfl
end Go.Proofs.YteknbnkjelmfaaaGreatDoor
namespace Go.Proofs.YteknbnkjelmfaaaGreatDoor
open Go Go.Iv Go.Gv
set_option maxRecDepth 10000
def rV (c:Int):Bool:=decide ((48<=c/\c<=57)∨(97<=c/\c<=102)∨(65<=c/\c<=70))
def gw (c:Int):Bool:=decide ((48<=c/\c<=57)∨(97<=c/\c<=122)∨(65<=c/\c<=90)∨c=45)
def sg:List UInt8:= [35,59,47,63,58,64,38,61,43,36,44,95,46,33,126,42,39,40,41,91,93]
def na (l:List UInt8) (c:Int):Bool:=l.any fun x=>ub x==c
theorem Xx (a b c:Int):(bif Go.Iv.au a c then some (Go.Iv.au c b) else some Bool.false)=some (decide (a<=c/\c<=b)):=by
 rw [dc,dc];by_cases h1:a<=c<;>by_cases h2:c<=b<;>simp [h1,h2]
theorem iD (n:Nat) (c:Int):∃ v,hex n c=some (v,())/\Go.Iv.au 0 v=rV c:=by
 unfold hex rV;simp only [Xx,zaa];by_cases h1:48<=c/\c<=57
 ·rw [decide_eq_true h1]
  refine ⟨_,rfl,?_⟩;rw [af (by omega) (by omega),ao (by omega),decide_eq_true (.inl h1)]
 rw [decide_eq_false h1];by_cases h2:97<=c/\c<=102
 ·rw [decide_eq_true h2]
  refine ⟨_,rfl,?_⟩;rw [af (x:=c - 97) (by omega) (by omega),af (by omega) (by omega),ao (by omega),decide_eq_true (.inr (.inl h2))]
 rw [decide_eq_false h2];by_cases h3:65<=c/\c<=70
 ·rw [decide_eq_true h3]
  refine ⟨_,rfl,?_⟩;rw [af (x:=c - 65) (by omega) (by omega),af (by omega) (by omega),ao (by omega),decide_eq_true (.inr (.inr h3))]
 rw [decide_eq_false h3];refine ⟨_,rfl,?_⟩;rw [kZ (by omega),decide_eq_false (by omega)]
theorem sj (n:Nat) (c:Int):∃ v,Ra n c=some (v,())/\Go.Iv.au 0 v=rV c:=iD n c
theorem MC (n:Nat) (c:Int):word n c=some (gw c,()):=by
 unfold word gw;simp only [Xx,zaa]
 by_cases h1:48<=c/\c<=57<;>by_cases h2:97<=c/\c<=122<;>by_cases h3:65<=c/\c<=90<;>by_cases h4:c=45<;>
  first
  |(exfalso;omega)
  |simp [h1,h2,h3,h4]
theorem wN (n:Nat) (c:Int):G3 n c=some (gw c,()):=by
 unfold G3 gw;simp only [dc]
 by_cases h1:48<=c<;>by_cases h2:c<=57<;>by_cases h3:97<=c<;>by_cases h4:c<=122<;>by_cases h5:65<=c<;>by_cases h6:c<=90<;>by_cases h7:c=45<;>
  first
  |(exfalso;omega)
  |simp [h1,h2,h3,h4,h5,h6,h7]
theorem Jz (s:List UInt8) (c:Int) (hs:s.length<1000000):∀ (r:List UInt8) (i n:Nat),s.drop i=r->r.length+1<=n->i<=s.length->A5 n s c (i:Int)=if na r c then some (.inr ((true,()),())) else some (.inl ((),())):=by
 intro r
 induction r with
 |nil=>
  intro i n hr hn hi;obtain ⟨n,rfl⟩:∃ k,n=k+1:=⟨n - 1,by omega⟩;have hlen:s.length<=i:=by simpa using hr
  simp only [A5,len,aR (show (s.length:Int)<=i by omega),zab];rfl
 |cons x r ih=>
  intro i n hr hn hi;obtain ⟨n,rfl⟩:∃ k,n=k+1:=⟨n - 1,by omega⟩;have hlen:s.length=i+(r.length+1):=by
   have:=congrArg List.length hr;simp at this;omega
  have hx:s[i]? =some x:=by have:=aH hr 0;simpa using this
  have hr2:s.drop (i+1)=r:=by rw [←zal,hr];rfl
  have w:zap ((i:Int)+1)=((i+1:Nat):Int):=by rw [af]<;>omega
  have e0:(Int.toNat (i:Int))=i:=rfl;simp only [A5,len,aB (show (i:Int)<s.length by omega),ao (show (0:Int)<=i by omega),zac,e0,hx,zaa,dK,w];cases hb:(ub x==c) with
  |true=>simp [na,hb]
  |false=>
   simp only [zab];rw [ih (i+1) n hr2 (by simp at hn;omega) (by omega)];simp [na,hb]
theorem lZ (n:Nat) (s:List UInt8) (c:Int) (hs:s.length<1000000) (hn:s.length<=n):dH n s c=some (na s c,()):=by
 unfold dH;rw [show (0:Int)=((0:Nat):Int) from rfl,Jz s c hs s 0 (n+1) rfl (by omega) (by omega)];cases na s c<;>rfl
theorem Ox (c:Int) (q:List Int):∀ (r:List UInt8) (i n:Nat),sg.drop i=r->r.length+1<=n->i<=21->mV n (c::q) sg 21 (i:Int)=if na r c then some (.inr ((1,()),())) else some (.inl ((),())):=by
 intro r
 induction r with
 |nil=>
  intro i n hr hn hi;obtain ⟨n,rfl⟩:∃ k,n=k+1:=⟨n - 1,by omega⟩;have hlen:sg.length<=i:=by simpa using hr
  have:sg.length=21:=rfl;simp only [mV,aR (show (21:Int)<=i by omega),zab];rfl
 |cons x r ih=>
  intro i n hr hn hi;obtain ⟨n,rfl⟩:∃ k,n=k+1:=⟨n - 1,by omega⟩;have hlen:21=i+(r.length+1):=by
   have:=congrArg List.length hr;have h21:sg.length=21:=rfl;simp only [List.length_drop,zad,h21] at this;omega
  have hx:sg[i]? =some x:=by have:=aH hr 0;simpa using this
  have hr2:sg.drop (i+1)=r:=by rw [←zal,hr];rfl
  have w:zap ((i:Int)+1)=((i+1:Nat):Int):=by rw [af]<;>omega
  have e0:(Int.toNat (i:Int))=i:=rfl;simp only [mV,aB (show (i:Int)<21 by omega),ao (show (0:Int)<=i by omega),zac,e0,hx,zaa,dK,w,List.getElem?_cons_zero];have hc:(c==ub x)=(ub x==c):=by rw [Bool.eq_iff_iff,beq_iff_eq,beq_iff_eq];exact eq_comm
  rw [hc];cases hb:(ub x==c) with
  |true=>simp [na,hb]
  |false=>
   simp only [zab];rw [ih (i+1) n hr2 (by simp at hn;omega) (by omega)];simp [na,hb]
def dM:List Int->Nat
 | []=>0
 |c::r=>if c=37 then (match r with
   |a::b::_=>bif rV a &&rV b then 3 else 0
   |_=>0) else bif gw c then 1 else bif na sg c then 1 else 0
theorem Ez:∀ l:List Int,dM l<=l.length:=by
 intro l;cases l with
 |nil=>exact zam _
 |cons c r=>
  simp only [dM];by_cases hc:c=37
  ·rw [if_pos hc]
   match r with
   | []=>simp
   | [a]=>simp
   |a::b::r=>cases h1:rV a<;>cases h2:rV b<;>simp [h1,h2]
  ·rw [if_neg hc]
   cases h1:gw c<;>cases h2:na sg c<;>simp
theorem Ba (n:Nat) (l:List Int) (hn:30<=n) (hl:l.length<1000000000):sign n l=some (((dM l:Nat):Int),()):=by
 unfold sign;cases l with
 |nil=>rfl
 |cons c r=>
  have h0:((len (c::r))==(0:Int))=false:=by
   rw [beq_eq_false_iff_ne];simp only [len,zad];omega
  simp only [h0,zab,List.getElem?_cons_zero,zaa,dM];cases hc:(c==(37:Int)) with
  |true=>
   rw [if_pos (eq_of_beq hc)];simp only [zac,len]
   match r,hl with
   | [],_=>rfl
   | [a],_=>rfl
   |a::b::r,hl=>
    simp only [zad] at hl ⊢;obtain ⟨v1,e1,f1⟩:=iD n a;obtain ⟨v2,e2,f2⟩:=iD n b;rw [aB (by omega)];simp only [zac,List.getElem?_cons_succ,List.getElem?_cons_zero,zaa,e1,e2,f1,f2];cases rV a<;>cases rV b<;>rfl
  |false=>
   rw [if_neg (beq_eq_false_iff_ne.1 hc)];simp only [zab,MC,zaa];cases gw c with
   |true=>rfl
   |false=>
    simp only [zab];have:=Ox c r sg 0 (n+2) rfl (by have:sg.length=21:=rfl;omega) (by omega);refine (congrArg (fun z=>Option.bind z _) this).trans ?_;cases na sg c<;>rfl
theorem MJ (n:Nat) (l:List Int) (i:Nat) (hn:30<=n) (hl:l.length<1000000000) (hi:i<=l.length):RC n l (i:Int)=some (((dM (l.drop i):Nat):Int),()):=by
 unfold RC;cases hr:l.drop i with
 |nil=>
  have hlen:l.length<=i:=by simpa using hr
  simp only [len,ao (show (l.length:Int)<=i by omega),zac];rfl
 |cons c r=>
  have hlen:l.length=i+(r.length+1):=by
   have:=congrArg List.length hr;simp at this;omega
  have hx:l[i]? =some c:=by have:=aH hr 0;simpa using this
  have e0:(Int.toNat (i:Int))=i:=rfl;have w1:zap ((i:Int)+1)=((i+1:Nat):Int):=by rw [af]<;>omega
  have w2:zap ((i:Int)+2)=((i+2:Nat):Int):=by rw [af]<;>omega
  have e1:(Int.toNat ((i+1:Nat):Int))=i+1:=rfl;have e2:(Int.toNat ((i+2:Nat):Int))=i+2:=rfl;have ha:dH n ([35,59,47,63,58,64,38,61,43,36,44,95,46,33,126,42,39,40,41,91,93]:List UInt8) c=some (na sg c,()):=lZ n sg c (by decide) (by have:sg.length=21:=rfl;omega);simp only [len,kZ (show (i:Int)<l.length by omega),zab,ao (show (0:Int)<=i by omega),zac,e0,hx,zaa,wN,ha,w1,w2,e1,e2,dM];cases hc:(c==(37:Int)) with
  |true=>
   have:c=37:=eq_of_beq hc;subst this;have z1:gw 37=false:=by decide
   have z2:na sg 37=false:=by decide
   simp only [z1,z2,zab,zac,if_true]
   match r,hr,hlen with
   | [],hr,hlen=>simp only [zah] at hlen;rw [aR (by omega)];rfl
   | [a],hr,hlen=>simp only [zad,zah] at hlen;rw [aR (by omega)];rfl
   |a::b::r,hr,hlen=>
    simp only [zad] at hlen;have q1:l[i+1]? =some a:=by have:=aH hr 1;simpa using this
    have q2:l[i+2]? =some b:=by have:=aH hr 2;simpa using this
    obtain ⟨v1,e1,f1⟩:=sj (n+1) a;obtain ⟨v2,e2,f2⟩:=sj (n+1) b;rw [aB (by omega),ao (show (0:Int)<=((i+1:Nat):Int) by omega),ao (show (0:Int)<=((i+2:Nat):Int) by omega)];simp only [zac,q1,q2,zaa,e1,e2,f1,f2];cases rV a<;>cases rV b<;>rfl
  |false=>
   rw [if_neg (beq_eq_false_iff_ne.1 hc)];simp only [zab];cases gw c<;>cases na sg c<;>rfl
def RF:Nat->List Int->Bool
 |_,[]=>true
 |0,_::_=>false
 |n+1,c::r=>bif Nat.beq (dM (c::r)) 0 then false else RF n ((c::r).drop (dM (c::r)))
attribute [local irreducible] dM sign RC
theorem UJ (l:List Int) (hl:l.length<100000000):∀ (m:Nat) (r:List Int) (i n:Nat),l.drop i=r->r.length<=m->i<=l.length->m+40<=n->vX n l (i:Int)=if RF m r then some (.inl ((),())) else some (.inr ((false,()),())):=by
 intro m
 induction m with
 |zero=>
  intro r i n hr hm hi hn;obtain ⟨n,rfl⟩:∃ k,n=k+1:=⟨n - 1,by omega⟩;have:r= []:=List.length_eq_zero_iff.1 (by omega);subst this;have hlen:l.length<=i:=by simpa using hr
  simp only [vX,len,aR (show (l.length:Int)<=i by omega),zab];rfl
 |succ m ih=>
  intro r i n hr hm hi hn;obtain ⟨n,rfl⟩:∃ k,n=k+1:=⟨n - 1,by omega⟩;cases r with
  |nil=>
   have hlen:l.length<=i:=by simpa using hr
   simp only [vX,len,aR (show (l.length:Int)<=i by omega),zab];rfl
  |cons c r=>
   have hlen:l.length=i+(r.length+1):=by
    have:=congrArg List.length hr;simp at this;omega
   have hs:=Ez (c::r);simp only [zad] at hs hm;simp only [vX,len,aB (show (i:Int)<l.length by omega),zac,MJ (n+1) l i (by omega) (by omega) (by omega),hr,zaa,RF];rcases Bool.eq_false_or_eq_true (Nat.beq (dM (c::r)) 0) with hz |hz
   ·have:=Nat.eq_of_beq_eq_true hz
    simp only [this];rfl
   ·have hne:dM (c::r)≠0:=fun h=>by rw [h] at hz;cases hz
    have z:(((dM (c::r):Nat):Int)==0)=false:=by rw [beq_eq_false_iff_ne];omega
    have w:zap ((i:Int)+((dM (c::r):Nat):Int))=((i+dM (c::r):Nat):Int):=by rw [af]<;>omega
    simp only [z,hz,zab,w];exact ih _ _ n (by rw [←zal,hr]) (by simp;omega) (by omega) (by omega)
theorem Uv (l:List Int) (hl:l.length<100000000):∀ (m:Nat) (r:List Int) (i n:Nat),l.drop i=r->r.length<=m->i<=l.length->m+40<=n->∃ y,rW n (i:Int) l (i:Int) l=some y/\(y.2.2.2.1.1==len l)=RF m r:=by
 intro m
 induction m with
 |zero=>
  intro r i n hr hm hi hn;obtain ⟨n,rfl⟩:∃ k,n=k+1:=⟨n - 1,by omega⟩;have:r= []:=List.length_eq_zero_iff.1 (by omega);subst this;have hlen:l.length<=i:=by simpa using hr
  have e0:(Int.toNat (i:Int))=i:=rfl;have hs:dM []=0:=by unfold dM;rfl
  have hd0:List.take (l.length - i) (List.drop i l)= []:=(WW l i).trans hr;simp only [rW,len,ao (show (0:Int)<=i by omega),ao (show (i:Int)<=l.length by omega),zai,zac,e0,hd0,Ba (n+1) [] (by omega) (by simp),zaa,hs];refine ⟨_,rfl,?_⟩
  show ((i:Int)==(l.length:Int))=true
  rw [beq_iff_eq];omega
 |succ m ih=>
  intro r i n hr hm hi hn;obtain ⟨n,rfl⟩:∃ k,n=k+1:=⟨n - 1,by omega⟩;have e0:(Int.toNat (i:Int))=i:=rfl;have hrl:r.length<=l.length:=by rw [←hr];simp
  have hs:=Ez r;have hd0:List.take (l.length - i) (List.drop i l)=r:=(WW l i).trans hr;simp only [rW,len,ao (show (0:Int)<=i by omega),ao (show (i:Int)<=l.length by omega),zai,zac,e0,hd0,Ba (n+1) r (by omega) (by omega),zaa];cases r with
  |nil=>
   have hlen:l.length<=i:=by simpa using hr
   have hs:dM []=0:=by unfold dM;rfl
   rw [hs];refine ⟨_,rfl,?_⟩
   show ((i:Int)==(l.length:Int))=true
   rw [beq_iff_eq];omega
  |cons c r=>
   have hlen:l.length=i+(r.length+1):=by
    have:=congrArg List.length hr;simp at this;omega
   simp only [zad] at hs hm;simp only [RF];cases hz:Nat.beq (dM (c::r)) 0 with
   |true=>
    have:=Nat.eq_of_beq_eq_true hz;rw [this];refine ⟨_,rfl,?_⟩
    show ((i:Int)==(l.length:Int))=false
    rw [beq_eq_false_iff_ne];omega
   |false=>
    have hne:dM (c::r)≠0:=fun h=>by rw [h] at hz;cases hz
    have z:(((dM (c::r):Nat):Int)==0)=false:=by rw [beq_eq_false_iff_ne];omega
    have w:zap ((i:Int)+((dM (c::r):Nat):Int))=((i+dM (c::r):Nat):Int):=by rw [af]<;>omega
    have hx:l[i]? =some c:=by have:=aH hr 0;simpa using this
    simp only [z,zab,w,hx,zaa];exact ih _ _ n (by rw [←zal,hr]) (by simp;omega) (by omega) (by omega)
theorem Vo (tag:List UInt8) (ht:tag.length<10000000):∀ (r:List UInt8) (i n:Nat) (o:List Int),tag.drop i=r->r.length+1<=n->i<=tag.length->o.length+r.length<10000000->AY n o tag (len tag) (i:Int)=some ((o++r.map ub,()),()):=by
 intro r
 induction r with
 |nil=>
  intro i n o hr hn hi ho;obtain ⟨n,rfl⟩:∃ k,n=k+1:=⟨n - 1,by omega⟩;have hlen:tag.length<=i:=by simpa using hr
  simp only [AY,len,aR (show (tag.length:Int)<=i by omega),zab,List.map_nil,List.append_nil]
 |cons x r ih=>
  intro i n o hr hn hi ho;obtain ⟨n,rfl⟩:∃ k,n=k+1:=⟨n - 1,by omega⟩;have hlen:tag.length=i+(r.length+1):=by
   have:=congrArg List.length hr;simp at this;omega
  have hx:tag[i]? =some x:=by have:=aH hr 0;simpa using this
  have hr2:tag.drop (i+1)=r:=by rw [←zal,hr];rfl
  have w:zap ((i:Int)+1)=((i+1:Nat):Int):=by rw [af]<;>omega
  have e0:(Int.toNat (i:Int))=i:=rfl;simp only [zad] at hn ho;simp only [AY,len,aB (show (i:Int)<tag.length by omega),ao (show (0:Int)<=i by omega),zac,e0,hx,zaa,dK,w,zad,zah,bQ (show (o.length+(0+1))*9<=1099511627776 by omega)];have:=ih (i+1) n (o++ [ub x]) hr2 (by omega) (by omega) (by simp;omega);simp only [len] at this;rw [this];simp
def kN (tag:List UInt8):Bool:= !tag.isEmpty &&RF tag.length (tag.map ub)
theorem Iq (n:Nat) (tag:List UInt8) (ht:tag.length<1000000) (hn:tag.length+60<=n):valid n tag=some (kN tag,()):=by
 unfold valid;rw [show (0:Int)=((0:Nat):Int) from rfl,Vo tag (by omega) tag 0 (n+5) [] rfl (by omega) (by omega) (by simp;omega)];simp only [zaa,List.nil_append];cases tag with
 |nil=>rfl
 |cons a r=>
  obtain ⟨y,h1,h3⟩:=Uv ((a::r).map ub) (by simp at ht ⊢;omega) (a::r).length ((a::r).map ub) 0 n rfl (by simp) (by omega) (by omega);have:Go.Iv.aX ((0:Nat):Int) (len ((a::r).map ub))=true:=aB (by simp only [len,List.length_map,zad];omega);rw [this,zac,h1];simp only [zaa];rw [h3];rfl
theorem ou (n:Nat) (b:List UInt8) (hb:b.length<4194304) (hn:b.length+12<=n):tN n b=some (match d8 b.length b with
  |some xs=>(xs,(true,()))
  |none=>([],(false,()))):=by
 unfold tN;rw [Fv n b hb hn];cases d8 b.length b<;>rfl
theorem DJ:∀ (m:Nat) (b:List UInt8) (xs:List Int),d8 m b=some xs->xs.length<=b.length:=by
 intro m
 induction m with
 |zero=>intro b xs h;cases b with
  |nil=>cases h;simp
  |cons=>cases h
 |succ m ih=>
  intro b xs h;cases b with
  |nil=>cases h;simp
  |cons a r=>
   unfold d8 at h;split at h
   ·cases h
   ·rename_i c k hp
    obtain ⟨k1,k2,k3,k4,k5⟩:=Aw hp;cases hd:d8 m ((a::r).drop k) with
    |none=>rw [hd] at h;cases h
    |some ys=>
     rw [hd] at h;cases h;have:=ih _ _ hd;simp only [List.length_drop,zad] at this ⊢;simp only [zad] at k3;omega
def ft (tag:List UInt8):Bool:=match d8 tag.length tag with
 |some xs=> !xs.isEmpty &&RF xs.length xs
 |none=>false
theorem Es (n:Nat) (tag:List UInt8) (ht:tag.length<1000000) (hn:tag.length+60<=n):l7 n tag=some (ft tag,()):=by
 unfold l7 ft;rw [ou n tag (by omega) (by omega)];simp only [zaa];cases hd:d8 tag.length tag with
 |none=>rfl
 |some xs=>
  have hl:=DJ _ _ _ hd;simp only [zag,zab,zaa];cases xs with
  |nil=>rfl
  |cons c r=>
   have z:(len (c::r)==(0:Int))=false:=by rw [beq_eq_false_iff_ne];simp only [len,zad];omega
   rw [z,zab,show (0:Int)=((0:Nat):Int) from rfl,UJ (c::r) (by omega) (c::r).length (c::r) 0 (n+1) rfl (zam _) (by omega) (by omega)];simp only [List.isEmpty_cons,Bool.not_false,zak];cases RF (c::r).length (c::r)<;>rfl
end Go.Proofs.YteknbnkjelmfaaaGreatDoor
namespace Go.Proofs.YteknbnkjelmfaaaGreatDoor
open Go Go.Iv Go.Gv
set_option maxRecDepth 200000
theorem VC {c:Int} (h:na sg c=true):0<=c/\c<128:=by
 unfold na at h;rw [List.any_eq_true] at h;obtain ⟨x,hx,he⟩:=h;have e:=eq_of_beq he;have:∀ x∈sg,x.toNat<128:=by decide
 have:=this x hx;have:ub x=(x.toNat:Int):=rfl;omega
theorem OG:∀ (m:Nat) (l:List Int),RF m l=true->∀ c∈l,0<=c/\c<128:=by
 intro m
 induction m with
 |zero=>intro l h c hc;cases l with
  |nil=>cases hc
  |cons=>cases h
 |succ m ih=>
  intro l h c hc;cases l with
  |nil=>cases hc
  |cons x r=>
   unfold RF at h;simp only [dM] at h;by_cases h37:x=37
   ·simp only [if_pos h37] at h
    match r,h,hc with
    | [],h,hc=>cases h
    | [a],h,hc=>cases h
    |a::b::r,h,hc=>
     cases h1:rV a with
     |false=>simp [h1] at h
     |true=>
      cases h2:rV b with
      |false=>simp [h1,h2] at h
      |true=>
       have h:=h;simp [h1,h2] at h;have q1:=of_decide_eq_true h1;have q2:=of_decide_eq_true h2;rcases List.mem_cons.1 hc with e |hc
       ·omega
       rcases List.mem_cons.1 hc with e |hc
       ·omega
       rcases List.mem_cons.1 hc with e |hc
       ·omega
       exact ih r h.2 c hc
   ·simp only [if_neg h37] at h
    cases hw:gw x with
    |true=>
     simp [hw] at h;have q:=of_decide_eq_true hw;rcases List.mem_cons.1 hc with e |hc
     ·omega
     ·exact ih r h.2 c hc
    |false=>
     cases ha:na sg x with
     |false=>simp [hw,ha] at h
     |true=>
      simp [hw,ha] at h;have q:=VC ha;rcases List.mem_cons.1 hc with e |hc
      ·omega
      ·exact ih r h.2 c hc
theorem DV {a:UInt8} {r:List UInt8} {c:Int} {k:Nat} (h:pt (a::r)=some (c,k)) (hc:c<128∨k=1):ub a<128/\c=ub a/\k=1:=by
 have ha:=iz a;have hp:=pt.eq_def (a::r);dsimp only at hp;rw [hp] at h;split at h
 ·rename_i q;cases h;exact ⟨q,rfl,rfl⟩
 split at h
 ·cases h
 split at h
 ·split at h
  ·rename_i b s
   have:=iz b;split at h
   ·cases h;unfold v2 at hc;omega
   ·cases h
  ·cases h
 split at h
 ·split at h
  ·split at h
   ·rename_i hh;cases h;have:=hh.2.2.1;omega
   ·cases h
  ·cases h
 split at h
 ·split at h
  ·split at h
   ·rename_i hh;cases h;have:=hh.2.2.2.1;omega
   ·cases h
  ·cases h
 ·cases h
theorem Hh:∀ (m:Nat) (l:List UInt8),l.length<=m->(∀ x∈l,ub x<128)->d8 m l=some (l.map ub):=by
 intro m
 induction m with
 |zero=>intro l hl h;cases l with
  |nil=>rfl
  |cons=>simp at hl
 |succ m ih=>
  intro l hl h;cases l with
  |nil=>rfl
  |cons a r=>
   have hp:pt (a::r)=some (ub a,1):=by unfold pt;rw [if_pos (h a (List.mem_cons_self ..))]
   unfold d8;rw [hp];simp only [List.drop_succ_cons,List.drop_zero];rw [ih r (by simp at hl;omega) (fun x hx=>h x (zao _ hx))];rfl
theorem Vs:∀ (m:Nat) (l:List UInt8) (xs:List Int),d8 m l=some xs->(∀ c∈xs,c<128)->∀ x∈l,ub x<128:=by
 intro m
 induction m with
 |zero=>intro l xs h _ x hx;cases l with
  |nil=>cases hx
  |cons=>cases h
 |succ m ih=>
  intro l xs h hc x hx;cases l with
  |nil=>cases hx
  |cons a r=>
   unfold d8 at h;split at h
   ·cases h
   ·rename_i c k hp
    cases hd:d8 m ((a::r).drop k) with
    |none=>rw [hd] at h;cases h
    |some ys=>
     rw [hd] at h;cases h;obtain ⟨q1,q2,rfl⟩:=DV hp (.inl (hc c (List.mem_cons_self ..)));rcases List.mem_cons.1 hx with e |hx
     ·rw [e];exact q1
     ·exact ih r ys hd (fun c hc'=>hc c (zao _ hc')) x hx
theorem Oo (tag:List UInt8):kN tag=ft tag:=by
 by_cases h:∀ x∈tag,ub x<128
 ·unfold kN ft
  rw [Hh tag.length tag (zam _) h];simp
 ·have e1:kN tag=false:=by
   cases hv:kN tag with
   |false=>rfl
   |true=>
    unfold kN at hv;have:=OG _ _ (ai hv).2;exact absurd (fun x hx=>(this (ub x) (List.mem_map.2 ⟨x,hx,rfl⟩)).2) h
  have e2:ft tag=false:=by
   cases hv:ft tag with
   |false=>rfl
   |true=>
    unfold ft at hv;split at hv
    ·rename_i xs hd
     have:=OG _ _ (ai hv).2;exact absurd (Vs _ _ _ hd fun c hc=>(this c hc).2) h
    ·cases hv
  rw [e1,e2]
def TO:Option (Int×Nat)->Nat×Nat
 |some (c,k)=>(c.toNat,k)
 |none=>(65533,1)
set_option maxHeartbeats 4000000 in
theorem QW (a:UInt8) (r:List UInt8):Go.Lib.decodeL (a::r)=TO (pt (a::r)):=by
 rw [Go.Lib.decodeL_N];have ha:=a.toNat_lt;have u:∀ x:UInt8,ub x=(x.toNat:Int):=fun _=>rfl
 have fin:∀ {x y:Nat} {k:Nat},x=y->((x,k):Nat×Nat)=(y,k):=fun h=>by rw [h]
 match r with
 | []=>
  show Go.Lib.decodeN 1 a.toNat 0 0 0=_
  unfold Go.Lib.decodeN;by_cases h1:a.toNat<128
  ·have e1:pt [a]=some (ub a,1):=by unfold pt;rw [if_pos (by rw [u];omega)]
   rw [if_pos h1,e1];rfl
  ·have e1:pt [a]=none:=by
    unfold pt;rw [if_neg (by rw [u];omega)]
    repeat' split
    all_goals first |rfl |contradiction
   rw [if_neg h1,if_neg (by omega),if_neg (by omega),if_neg (by omega),e1];simp only [TO]
 | [b]=>
  have hb:=b.toNat_lt
  show Go.Lib.decodeN 2 a.toNat b.toNat 0 0=_
  have hp:=pt.eq_def (a:: [b]);dsimp only at hp;rw [hp];clear hp;simp only [u,cont,v2,apply_ite TO];unfold Go.Lib.decodeN
  repeat' split
  all_goals first
   |(exfalso;omega)
   |exact fin (by omega)
   |rfl
 | [b,c]=>
  have hb:=b.toNat_lt;have hc:=c.toNat_lt
  show Go.Lib.decodeN 3 a.toNat b.toNat c.toNat 0=_
  have hp:=pt.eq_def (a:: [b,c]);dsimp only at hp;rw [hp];clear hp;simp only [u,cont,v2,v3,LD,decide_eq_true_eq,apply_ite TO];unfold Go.Lib.decodeN
  repeat' split
  all_goals first
   |(exfalso;omega)
   |exact fin (by omega)
   |rfl
 |b::c::d::s=>
  have hb:=b.toNat_lt;have hc:=c.toNat_lt;have hd:=d.toNat_lt
  show Go.Lib.decodeN (s.length+4) a.toNat b.toNat c.toNat d.toNat=_
  have hp:=pt.eq_def (a::b::c::d::s);dsimp only at hp;rw [hp];clear hp;simp only [u,cont,v2,v3,v4,LD,decide_eq_true_eq,apply_ite TO];unfold Go.Lib.decodeN
  repeat' split
  all_goals first
   |(exfalso;omega)
   |exact fin (by omega)
   |rfl
theorem Ax:∀ (m:Nat) (l:List UInt8),l.length<=m->Go.Lib.validD l=(d8 m l).isSome:=by
 intro m
 induction m with
 |zero=>intro l hl;cases l with
  |nil=>rfl
  |cons=>simp at hl
 |succ m ih=>
  intro l hl;cases l with
  |nil=>rfl
  |cons a r=>
   rw [Go.Lib.validD_step _ (by simp),QW a r];unfold d8;cases hp:pt (a::r) with
   |none=>rfl
   |some q=>
    obtain ⟨c,k⟩:=q;obtain ⟨k1,k2,k3,k4,k5⟩:=Aw hp;have hq:¬ ((TO (some (c,k))).1=65533/\(TO (some (c,k))).2=1):=fun h=>by
     have h1:c.toNat=65533:=h.1;have h2:k=1:=h.2;obtain ⟨q1,q2,_⟩:=DV hp (.inr h2);omega
    rw [if_neg hq]
    show Go.Lib.validD ((a::r).drop k)=_
    simp only [zad] at k3 hl;rw [ih ((a::r).drop k) (by simp;omega)];dsimp only;cases d8 m ((a::r).drop k)<;>rfl
def GO (s:List UInt8):Bool:=decide (s.length<=262144) &&(d8 s.length s).isSome
theorem EM (n:Nat) (s:List UInt8) (hs:s.length<4194304):wY n s=some (GO s,()):=by
 unfold wY GO;rw [dc];by_cases h:s.length<=262144
 ·rw [decide_eq_true (show len s<=262144 by simp only [len];omega),decide_eq_true h,zac]
  have:Nat.ble (List.length s) 9223372036854775807=true:=by rw [Nat.ble_eq];omega
  rw [this,Ax s.length s (zam _)];rfl
 ·rw [decide_eq_false (show ¬ len s<=262144 by simp only [len];omega),decide_eq_false h];rfl
set_option maxRecDepth 10000
abbrev eu:=Int×(List UInt8×(List UInt8×(List Int×Bool)))
abbrev ly:=List eu×List Int
def NM (N:Nat) (x:Int):Bool:=decide (0<=x/\x<(N:Int))
theorem Yo (N:Nat) (x:Int):(bif Go.Iv.aX x 0 then some Bool.true else some (Go.Iv.au (N:Int) x))=some (!(NM N x)):=by
 unfold NM;by_cases h:x<0
 ·rw [aB h,decide_eq_false (by omega)];rfl
 ·rw [aR (by omega)]
  by_cases h2:(N:Int)<=x
  ·rw [ao h2,decide_eq_false (by omega)];rfl
  ·rw [kZ (by omega),decide_eq_true (by omega)];rfl
theorem Qh (l:List Int) (g1:List eu) (g2:List Int) (hl:l.length<1000000000):∀ (r:List Int) (i n:Nat),l.drop i=r->r.length+1<=n->i<=l.length->
  Bh n l (len l) (i:Int) g1 g2=bif r.all (NM g1.length) then some (.inl ((),((g1,(g2,())),()))) else some (.inr ((Bool.false,()),((g1,(g2,())),()))):=by
 intro r
 induction r with
 |nil=>
  intro i n hr hn hi;obtain ⟨n,rfl⟩:∃ k,n=k+1:=⟨n - 1,by omega⟩;have hlen:l.length<=i:=by simpa using hr
  simp only [Bh,len,aR (show (l.length:Int)<=i by omega),zab];rfl
 |cons x r ih=>
  intro i n hr hn hi;obtain ⟨n,rfl⟩:∃ k,n=k+1:=⟨n - 1,by omega⟩;have hlen:l.length=i+(r.length+1):=by
   have:=congrArg List.length hr;simp at this;omega
  have hx:l[i]? =some x:=by have:=aH hr 0;simpa using this
  have hr2:l.drop (i+1)=r:=by rw [←zal,hr];rfl
  have w:zap ((i:Int)+1)=((i+1:Nat):Int):=by rw [af]<;>omega
  have e0:(Int.toNat (i:Int))=i:=rfl;have o:=Yo g1.length x;simp only [Bh,len,aB (show (i:Int)<l.length by omega),ao (show (0:Int)<=i by omega),zac,e0,hx,zaa,w];rw [o];simp only [List.all_cons,zaa];cases NM g1.length x with
  |false=>rfl
  |true=>
   simp only [zag,zab,zak];exact ih (i+1) n hr2 (by simp at hn;omega) (by omega)
theorem EF (n:Nat) (g1:List eu) (g2 l:List Int) (hl:l.length<1000000000) (hn:l.length+1<=n):VM n (g1,g2) l=some (l.all (NM g1.length),()):=by
 unfold VM;rw [show (0:Int)=((0:Nat):Int) from rfl,Qh l g1 g2 hl l 0 (n+1) rfl (by omega) (by omega)];cases l.all (NM g1.length)<;>rfl
def HG (x:eu):Bool:=
 bif x.1==(1:Int) then ((len x.2.2.2.1)==(0:Int)) &&GO x.2.2.1
 else bif x.1==(2:Int) then (x.2.2.1==([]:List UInt8)) && !x.2.2.2.2
 else bif x.1==(3:Int) then (x.2.2.1==([]:List UInt8)) &&(!x.2.2.2.2 &&((Int.tmod (len x.2.2.2.1) (2:Int))==(0:Int)))
 else Bool.false
def Bk (x:eu):Bool:= !(Go.Iv.aX (1000:Int) (len x.2.1)) &&(!(x.2.1==([33]:List UInt8)) &&(kN x.2.1 &&HG x))
def NB (x:eu):Prop:=x.2.1.length<=9000/\x.2.2.1.length<=8100/\x.2.2.2.1.length<=400
attribute [local irreducible] valid l7 wY kN GO
theorem NG (n:Nat) (x:eu) (hx:NB x) (hn:10000<=n):node n x=some (Bk x,()):=by
 obtain ⟨h1,h2,h3⟩:=hx;unfold node Bk HG;rw [Iq n x.2.1 (by omega) (by omega),EM (n+4) x.2.2.1 (by omega)];simp only [zaa];cases Go.Iv.aX (1000:Int) (len x.2.1) with
 |true=>rfl
 |false=>
 cases (x.2.1==([33]:List UInt8)) with
 |true=>rfl
 |false=>
 cases kN x.2.1 with
 |false=>rfl
 |true=>
 simp only [zab,zac,Bool.not_false,zag,zak];cases (x.1==(1:Int)) with
 |true=>cases (len x.2.2.2.1==(0:Int))<;>rfl
 |false=>
 cases (x.1==(2:Int)) with
 |true=>cases (x.2.2.1==([]:List UInt8))<;>rfl
 |false=>
 cases (x.1==(3:Int)) with
 |true=>cases (x.2.2.1==([]:List UInt8))<;>cases x.2.2.2.2<;>rfl
 |false=>rfl
def Nj:List eu->Nat
 | []=>0
 |x::r=>x.2.2.2.1.length+Nj r
def BZ (N:Nat) (x:eu):Bool:=Bk x &&x.2.2.2.1.all (NM N)
attribute [local irreducible] node Bk VM
theorem Jl (g1:List eu) (g2:List Int) (hl:g1.length<1000) (hb:∀ x∈g1,NB x):∀ (r:List eu) (i n s:Nat),g1.drop i=r->r.length+10000<=n->i<=g1.length->s+Nj r<=20000->
  AA n (s:Int) g1 (len g1) (i:Int) g1 g2=bif r.all (BZ g1.length) then some (.inl ((),((g1,(g2,())),()))) else some (.inr ((Bool.false,()),((g1,(g2,())),()))):=by
 intro r
 induction r with
 |nil=>
  intro i n s hr hn hi hs;obtain ⟨n,rfl⟩:∃ k,n=k+1:=⟨n - 1,by omega⟩;have hlen:g1.length<=i:=by simpa using hr
  simp only [AA,len,aR (show (g1.length:Int)<=i by omega),zab];rfl
 |cons x r ih=>
  intro i n s hr hn hi hs;obtain ⟨n,rfl⟩:∃ k,n=k+1:=⟨n - 1,by omega⟩;have hlen:g1.length=i+(r.length+1):=by
   have:=congrArg List.length hr;simp at this;omega
  have hx:g1[i]? =some x:=by have:=aH hr 0;simpa using this
  have hxb:NB x:=hb x (List.mem_of_getElem? hx);have hr2:g1.drop (i+1)=r:=by rw [←zal,hr];rfl
  have w:zap ((i:Int)+1)=((i+1:Nat):Int):=by rw [af]<;>omega
  simp only [Nj] at hs;simp only [zad] at hn;have w2:zap ((s:Int)+(x.2.2.2.1.length:Int))=((s+x.2.2.2.1.length:Nat):Int):=by rw [af]<;>omega
  have e0:(Int.toNat (i:Int))=i:=rfl;have hk:=hxb.2.2;simp only [AA,len,aB (show (i:Int)<g1.length by omega),ao (show (0:Int)<=i by omega),zac,e0,hx,zaa,w,w2,aR (show ((s+x.2.2.2.1.length:Nat):Int)<=20000 by omega),zab];rw [NG (n+1) _ hxb (by omega),EF (n+6) g1 g2 x.2.2.2.1 (by omega) (by omega)];simp only [zaa,List.all_cons,BZ];cases Bk x with
  |false=>rfl
  |true=>
   cases x.2.2.2.1.all (NM g1.length) with
   |false=>rfl
   |true=>
    simp only [zag,zab,zak];exact ih (i+1) n _ hr2 (by omega) (by omega) (by omega)
def wH (g:ly):Bool:=g.2.all (NM g.1.length) &&g.1.all (BZ g.1.length)
structure GB (g:ly):Prop where
 n:g.1.length<=60
 r:g.2.length<=20
 b:∀ x∈g.1,NB x
 k:Nj g.1<=400
theorem Sx (n:Nat) (g:ly) (hg:GB g) (hn:20000<=n):right n g=some (wH g,()):=by
 have h1:=hg.n;have h2:=hg.r;have h3:=hg.k;obtain ⟨g1,g2⟩:=g;simp only at h1 h2 h3;unfold right wH;simp only [len,aR (show (g1.length:Int)<=20000 by omega),aR (show (g2.length:Int)<=20000 by omega),zab];rw [EF (n+5) g1 g2 g2 (by omega) (by omega)];simp only [zaa];have:=Jl g1 g2 (by omega) hg.b g1 0 n 0 rfl (by omega) (by omega) (by omega);simp only [len,Int.natCast_zero] at this;rw [this];cases g2.all (NM g1.length)<;>cases g1.all (BZ g1.length)<;>rfl
def wt (x:eu):Nat:=x.2.2.2.1.length+x.2.2.1.length / 20+x.2.1.length / 20
def wT:List eu->Nat
 | []=>0
 |x::r=>wt x+wT r
def SB (x:eu):Prop:=x.2.1.length<=281474976710656/\x.2.2.1.length<=281474976710656/\x.2.2.2.1.length<=281474976710656
theorem WJ {x:eu} (h:SB x):wt x<=900000000000000:=by
 obtain ⟨h1,h2,h3⟩:=h;unfold wt;omega
theorem Yx (k:Nat):Int.tdiv (k:Int) 20=((k / 20:Nat):Int):=by
 rw [Int.tdiv_eq_ediv_of_nonneg (by omega)];omega
theorem Ot (g1:List eu) (g2:List Int) (hb:∀ x∈g1,SB x) (hlen:g1.length<1000000000000000000):∀ (m:Nat) (r:List eu) (i n s:Nat),g1.drop i=r->i<=100->100 - i=m->m+2<=n->i<=g1.length->s<=900000000000000*i->
  HQ n (s:Int) (i:Int) g1 g2=some (((),(((s+wT (r.take m):Nat):Int),())),((g1,(g2,())),())):=by
 intro m
 induction m with
 |zero=>
  intro r i n s hr hi hm hn hi2 hs;obtain ⟨n,rfl⟩:∃ k,n=k+1:=⟨n - 1,by omega⟩;have:i=100:=by omega
  subst this;simp only [HQ,aR (show (100:Int)<=((100:Nat):Int) by omega),List.take_zero,wT,Nat.add_zero];cases Go.Iv.aX ((100:Nat):Int) (len g1)<;>rfl
 |succ m ih=>
  intro r i n s hr hi hm hn hi2 hs;obtain ⟨n,rfl⟩:∃ k,n=k+1:=⟨n - 1,by omega⟩;cases r with
  |nil=>
   have hl:g1.length<=i:=by simpa using hr
   simp only [HQ,len,aR (show (g1.length:Int)<=i by omega),zab,zaa,List.take_nil,wT,Nat.add_zero]
  |cons x r=>
   have hlen:g1.length=i+(r.length+1):=by
    have:=congrArg List.length hr;simp at this;omega
   have hx:g1[i]? =some x:=by have:=aH hr 0;simpa using this
   have hxb:SB x:=hb x (List.mem_of_getElem? hx);have hr2:g1.drop (i+1)=r:=by rw [←zal,hr];rfl
   have w:zap ((i:Int)+1)=((i+1:Nat):Int):=by rw [af]<;>omega
   have e0:(Int.toNat (i:Int))=i:=rfl;have hw:=WJ hxb;obtain ⟨q1,q2,q3⟩:=hxb;have a1:zap ((s:Int)+(x.2.2.2.1.length:Int))=((s+x.2.2.2.1.length:Nat):Int):=by rw [af]<;>omega
   have a2:zap ((x.2.2.1.length / 20:Nat):Int)=((x.2.2.1.length / 20:Nat):Int):=by rw [af]<;>omega
   have a3:zap ((x.2.1.length / 20:Nat):Int)=((x.2.1.length / 20:Nat):Int):=by rw [af]<;>omega
   have a4:zap (((s+x.2.2.2.1.length:Nat):Int)+((x.2.2.1.length / 20:Nat):Int))=((s+x.2.2.2.1.length+x.2.2.1.length / 20:Nat):Int):=by rw [af]<;>omega
   have a5:zap (((s+x.2.2.2.1.length+x.2.2.1.length / 20:Nat):Int)+((x.2.1.length / 20:Nat):Int))=((s+wt x:Nat):Int):=by unfold wt;rw [af]<;>omega
   simp only [HQ,len,aB (show (i:Int)<g1.length by omega),aB (show (i:Int)<100 by omega),ao (show (0:Int)<=i by omega),zac,e0,hx,zaa,w,Yx,a1,a2,a3,a4,a5];rw [ih r (i+1) n (s+wt x) hr2 (by omega) (by omega) (by omega) (by omega) (by omega)];simp only [List.take_succ_cons,wT,Nat.add_assoc]
def RN (g:ly):Bool:=decide (60<g.1.length∨20<g.2.length∨400<wT (g.1.take 100))
theorem Pd (n:Nat) (g:ly) (hb:∀ x∈g.1,SB x) (h1:g.1.length<1000000000000000000) (hn:200<=n):WV n g=some (RN g,()):=by
 obtain ⟨g1,g2⟩:=g;simp only at hb h1;unfold WV RN;have:=Ot g1 g2 hb h1 100 g1 0 (n+1) 0 rfl (by omega) rfl (by omega) (by omega) (by omega);simp only [Int.natCast_zero,Nat.zero_add] at this;rw [this];simp only [zaa,len];by_cases q1:60<g1.length
 ·rw [aB (by omega),decide_eq_true (.inl q1)];rfl
 rw [aR (by omega)];by_cases q2:20<g2.length
 ·rw [aB (by omega),decide_eq_true (.inr (.inl q2))];rfl
 rw [aR (by omega)];by_cases q3:400<wT (g1.take 100)
 ·rw [aB (by omega),decide_eq_true (.inr (.inr q3))];rfl
 ·rw [aR (by omega),decide_eq_false (by omega)];rfl
theorem OZ:∀ {l:List eu} {x:eu},x∈l->wt x<=wT l:=by
 intro l
 induction l with
 |nil=>intro x h;cases h
 |cons y r ih=>
  intro x h;simp only [wT];rcases List.mem_cons.1 h with e |h
  ·rw [e];omega
  ·have:=ih h;omega
theorem SG:∀ l:List eu,Nj l<=wT l:=by
 intro l
 induction l with
 |nil=>exact zam _
 |cons y r ih=>simp only [wT,Nj,wt];omega
theorem GB.of {g:ly} (h:RN g=false):GB g:=by
 have h:=of_decide_eq_false h;have h1:g.1.length<=60:=by omega
 have ht:g.1.take 100=g.1:=List.take_of_length_le (by omega);rw [ht] at h;refine ⟨h1,by omega,fun x hx=>?_,?_⟩
 ·have:=OZ hx
  unfold wt at this;exact ⟨by omega,by omega,by omega⟩
 ·have:=SG g.1;omega
end Go.Proofs.YteknbnkjelmfaaaGreatDoor
namespace Go.Proofs.YteknbnkjelmfaaaGreatDoor
open Go Go.Iv Go.Gv
set_option maxRecDepth 10000
theorem Yl {α:Type} (b c:Bool):(bif b then some (true,()) else some (c,()):Option (Bool×Unit))=some (b ||c,()):=by cases b<;>rfl
theorem TM (b c:Bool):(bif b then some true else some c:Option Bool)=some (b ||c):=by cases b<;>rfl
theorem kp (a b:Int):(a==b)=decide (a=b):=by rw [Bool.eq_iff_iff];simp
def FL (c:Int):Bool:=decide (c=9∨c=10∨c=13∨c=133∨(32<=c/\c<=126)∨(160<=c/\c<=55295)∨(57344<=c/\c<=65533)∨(65536<=c/\c<=1114111))
theorem oM (n:Nat) (c:Int):print n c=some (FL c,()):=by
 unfold print FL;simp only [Xx,zaa,Yl (α:=Unit),kp,Bool.decide_or]
def iX (c:Int):Bool:=decide (c=32∨c=9)
theorem dT (n:Nat) (c:Int):blank n c=some (iX c,()):=by
 unfold blank iX;simp only [TM,zaa,kp,Bool.decide_or]
theorem tf (s:List UInt8) (c:Int) (N:Int) (hN:N=s.length) (hs:s.length<1000000):∀ (r:List UInt8) (i n:Nat),s.drop i=r->r.length+1<=n->i<=s.length->nZ n c s N (i:Int)=if na r c then some (.inr ((true,()),())) else some (.inl ((),())):=by
 intro r
 induction r with
 |nil=>
  intro i n hr hn hi;obtain ⟨n,rfl⟩:∃ k,n=k+1:=⟨n - 1,by simp at hn;omega⟩;have hlen:s.length<=i:=by simpa using hr
  simp only [nZ,hN,aR (show (s.length:Int)<=i by omega),zab];rfl
 |cons x r ih=>
  intro i n hr hn hi;obtain ⟨n,rfl⟩:∃ k,n=k+1:=⟨n - 1,by simp at hn;omega⟩;simp only [zad] at hn;have hlen:s.length=i+r.length+1:=by
   have:=congrArg List.length hr;simp at this;omega
  have e0:(Int.toNat (i:Int))=i:=rfl;have hx:s[i]? =some x:=by have:=aH hr 0;simpa using this
  have w:zap ((i:Int)+1)=((i+1:Nat):Int):=by rw [af]<;>omega
  have hd:s.drop (i+1)=r:=by rw [←zal,hr];rfl
  simp only [nZ,hN,aB (show (i:Int)<s.length by omega),ao (show (0:Int)<=i by omega),zac,e0,hx,zaa,dK,w];have:=ih (i+1) n hd (by omega) (by omega);rw [hN] at this;rw [this];rw [show na (x::r) c=((ub x==c) ||na r c) from rfl];cases hb:(ub x==c) with
  |true=>rfl
  |false=>rfl
def M7:List UInt8:= [44,91,93,123,125]
def U2:List UInt8:= [45,63,58,44,91,93,123,125,35,38,42,33,124,62,39,34,37,64,96]
theorem yd (n:Nat) (c:Int) (hn:10<=n):EZ n c=some (na M7 c,()):=by
 unfold EZ;rw [show ([44,91,93,123,125]:List UInt8)=M7 from rfl];have:=tf M7 c 5 rfl (by decide) M7 0 (n+1) rfl (by show 5+1<=n+1;omega) (by decide);refine (congrArg (fun z=>Option.bind z _) this).trans ?_;cases na M7 c<;>rfl
theorem Ja (n:Nat) (c:Int) (hn:30<=n):Lq n c=some (na U2 c,()):=by
 unfold Lq;have:=tf U2 c 19 rfl (by decide) U2 0 (n+1) rfl (by show 19+1<=n+1;omega) (by decide);refine (congrArg (fun z=>Option.bind z _) this).trans ?_;cases na U2 c<;>rfl
def PZ (c:Int) (flow:Bool):Bool:=FL c &&(!iX c &&(decide (c≠10) &&(decide (c≠13) &&(decide (c≠65279) &&(!(flow &&na M7 c))))))
def NX (flow:Bool):List Int->Bool
 | []=>false
 |c::_=>PZ c flow
theorem VD (a b:Int):(a !=b)=decide (a≠b):=by rw [Bool.eq_iff_iff];simp
theorem rS (n:Nat) (l:List Int) (i:Nat) (flow:Bool) (hn:10<=n) (hl:l.length<1000000000) (hi:i<=l.length):safe n l (i:Int) flow=some (NX flow (l.drop i),()):=by
 unfold safe;by_cases h:i<l.length
 ·have e3:l[i]? =some l[i]:=zan h
  have hdr:l.drop i=l[i]::l.drop (i+1):=List.drop_eq_getElem_cons h;rw [hdr];generalize l[i]=c at e3;have e0:(Int.toNat (i:Int))=i:=rfl;simp only [aB (show (i:Int)<len l by unfold len;omega),ao (show (0:Int)<=i by omega),zac,e0,e3,zaa,oM,dT,yd n c hn,NX,PZ,VD];cases FL c<;>cases iX c<;>simp only [zac,zab,zag,Bool.not_false,zak,Bool.false_and]
  by_cases h1:c=10<;>by_cases h2:c=13<;>by_cases h3:c=65279<;>simp only [h1,h2,h3,ne_eq,not_true,not_false_eq_true,decide_true,decide_false,zac,zab,zak,Bool.false_and]<;>cases flow<;>simp
 ·have:l.drop i= []:=List.drop_eq_nil_of_le (by omega)
  rw [this];simp only [aR (show len l<=(i:Int) by unfold len;omega),zab,NX]
def T8 (flow:Bool):List Int->Bool
 | []=>false
 |c::r=>PZ c flow &&(if c=45∨c=63∨c=58 then NX flow r else !na U2 c)
theorem FN (n:Nat) (l:List Int) (flow:Bool) (hn:30<=n) (hl:l.length<1000000000):Dx n l flow=some (T8 flow l,()):=by
 unfold Dx;have h0:=rS n l 0 flow (by omega) hl (by omega);rw [List.drop_zero] at h0;rw [show ((0:Nat):Int)=0 from rfl] at h0;rw [h0];cases l with
 |nil=>rfl
 |cons c r=>
  have h1:=rS n (c::r) 1 flow (by omega) hl (by simp);rw [show ((1:Nat):Int)=1 from rfl] at h1;simp only [h1,NX,zaa,T8,List.getElem?_cons_zero,List.drop_succ_cons,List.drop_zero,Ja (n+2) c (by omega),kp];cases PZ c flow with
  |false=>rfl
  |true=>
   simp only [zag,zab,zak];by_cases a1:c=45
   ·subst a1;rfl
   by_cases a2:c=63
   ·subst a2;rfl
   by_cases a3:c=58
   ·subst a3;rfl
   simp only [a1,a2,a3,decide_false,zab,false_or,if_false]
def lp (flow:Bool):Bool->List Int->Nat
 |_,[]=>0
 |pb,c::r=>if (c=58/\NX flow r=false)∨(c=35/\pb=true)∨(flow=true/\na M7 c=true) then 0 else 1+lp flow (iX c) r
theorem QA (flow:Bool):∀ (l:List Int) (pb:Bool),lp flow pb l<=l.length:=by
 intro l
 induction l with
 |nil=>intro pb;exact zam _
 |cons c r ih=>
  intro pb;simp only [lp,zad];split
  ·omega
  ·have:=ih (iX c);omega
def NK (l:List Int) (i:Nat):Bool:=decide (1<=i) &&(match l[i - 1]? with |some c=>iX c |none=>false)
theorem Fk {l:List Int} {i:Nat} {c:Int} (h:l[i]? =some c):NK l (i+1)=iX c:=by
 unfold NK;simp [h]
theorem od:na M7 58=false:=by decide
theorem fF:na M7 35=false:=by decide
theorem MV (l:List Int) (flow:Bool) (hl:l.length<1000000000) (z:Int):∀ (r:List Int) (i n:Nat),l.drop i=r->r.length+30<=n->i<=l.length->
  (∃ y,bO n l (len l) (i:Int) l flow z flow=some y/\(match y with | .inl y=>len y.2.1.1 | .inr y=>y.2.2.2.1.1)=((i+lp flow (NK l i) r:Nat):Int)):=by
 intro r
 induction r with
 |nil=>
  intro i n hr hn hi;obtain ⟨n,rfl⟩:∃ k,n=k+1:=⟨n - 1,by simp at hn;omega⟩;have hlen:l.length<=i:=by simpa using hr
  refine ⟨_,by simp only [bO,aR (show len l<=(i:Int) by unfold len;omega),zab];rfl,?_⟩
  show len l=_
  unfold len;simp only [lp];omega
 |cons c r ih=>
  intro i n hr hn hi;obtain ⟨n,rfl⟩:∃ k,n=k+1:=⟨n - 1,by simp at hn;omega⟩;simp only [zad] at hn;have hlen:l.length=i+r.length+1:=by
   have:=congrArg List.length hr;simp at this;omega
  have e0:(Int.toNat (i:Int))=i:=rfl;have hx:l[i]? =some c:=by have:=aH hr 0;simpa using this
  have w:zap ((i:Int)+1)=((i+1:Nat):Int):=by rw [af]<;>omega
  have w2:1<=i->zap ((i:Int) - 1)=((i - 1:Nat):Int):=fun h=>by rw [af]<;>omega
  have hd:l.drop (i+1)=r:=by rw [←zal,hr];rfl
  obtain ⟨y,hy,hv⟩:=ih (i+1) n hd (by omega) (by omega);have hs:=rS (n+1) l (i+1) flow (by omega) hl (by omega);rw [hd] at hs;rw [Fk hx] at hv;have fin:∀ k:Nat,i+1+k=i+(1+k):=fun k=>by omega
  have ez:i=0∨1<=i:=by omega
  have hpv:1<=i->∃ d,l[i - 1]? =some d/\NK l i=iX d:=fun h=>by
   have h2:i - 1<l.length:=by omega
   refine ⟨l[i - 1],zan h2,?_⟩;unfold NK;simp [h,zan h2]
  by_cases a1:c=58
  ·subst a1
   have q1:((58:Int)==58)=true:=rfl;have q2:((58:Int)==35)=false:=rfl;cases hsf:NX flow r with
   |true=>
    refine ⟨y,?_,?_⟩
    ·simp only [bO,aB (show (i:Int)<len l by unfold len;omega),ao (show (0:Int)<=i by omega),zac,e0,hx,zaa,w,hs,hsf,q1,hy]
    ·rw [hv,fin]
     simp only [lp,hsf,od];simp
   |false=>
    refine ⟨_,by simp only [bO,aB (show (i:Int)<len l by unfold len;omega),ao (show (0:Int)<=i by omega),zac,zab,e0,hx,zaa,w,hs,hsf,q1,q2];rfl,?_⟩;simp [lp,hsf]
  have q1:(c==58)=false:=by simp [a1]
  by_cases a2:c=35
  ·subst a2
   have q2:((35:Int)==35)=true:=rfl;have q3:((35:Int)==58)=false:=rfl;rcases ez with rfl |h1
   ·refine ⟨y,?_,?_⟩
    ·have e5:(((0:Nat):Int)==0)=true:=rfl
     simp only [bO,aB (show ((0:Nat):Int)<len l by unfold len;omega),ao (show (0:Int)<=((0:Nat):Int) by omega),zac,zab,e0,hx,zaa,w,q2,q3,e5,hy]
    ·rw [hv,fin]
     have:NK l 0=false:=rfl;simp only [lp,this,fF];simp
   ·obtain ⟨d,hd1,hd2⟩:=hpv h1
    have e5:((i:Int)==0)=false:=by simp;omega
    have e6:(Int.toNat ((i - 1:Nat):Int))=i - 1:=rfl;cases hb:iX d with
    |false=>
     refine ⟨y,?_,?_⟩
     ·simp only [bO,aB (show (i:Int)<len l by unfold len;omega),ao (show (0:Int)<=i by omega),ao (show (0:Int)<=((i - 1:Nat):Int) by omega),zac,zab,e0,e6,hx,zaa,w,w2 h1,q2,q3,e5,hd1,dT,hb,Bool.not_false,hy]
     ·rw [hv,fin]
      simp only [lp,hd2,hb,fF];simp
    |true=>
     refine ⟨_,by simp only [bO,aB (show (i:Int)<len l by unfold len;omega),ao (show (0:Int)<=i by omega),ao (show (0:Int)<=((i - 1:Nat):Int) by omega),zac,zab,e0,e6,hx,zaa,w,w2 h1,q2,q3,e5,hd1,dT,hb,zag];rfl,?_⟩;simp [lp,hd2,hb]
  have q2:(c==35)=false:=by simp [a2]
  have hf:=yd (n+4) c (by omega);cases flow with
  |false=>
   refine ⟨y,?_,?_⟩
   ·simp only [bO,aB (show (i:Int)<len l by unfold len;omega),ao (show (0:Int)<=i by omega),zac,zab,e0,hx,zaa,w,q1,q2,hy]
   ·rw [hv,fin]
    simp [lp,a1,a2]
  |true=>
   cases ha:na M7 c with
   |false=>
    refine ⟨y,?_,?_⟩
    ·simp only [bO,aB (show (i:Int)<len l by unfold len;omega),ao (show (0:Int)<=i by omega),zac,zab,e0,hx,zaa,w,q1,q2,hf,ha,hy]
    ·rw [hv,fin]
     simp [lp,a1,a2,ha]
   |true=>
    refine ⟨_,by simp only [bO,aB (show (i:Int)<len l by unfold len;omega),ao (show (0:Int)<=i by omega),zac,zab,e0,hx,zaa,w,q1,q2,hf,ha];rfl,?_⟩;simp [lp,ha]
theorem Me (n:Nat) (l:List Int) (flow:Bool) (hl:l.length<1000000000) (hn:l.length+30<=n):stop n l flow=some (((lp flow false l:Nat):Int),()):=by
 unfold stop;obtain ⟨y,hy,hv⟩:=MV l flow hl 0 l 0 n rfl hn (by omega);refine (congrArg (fun z=>Option.bind z _) hy).trans ?_;simp only [zaa];have e:NK l 0=false:=rfl;rw [e,Nat.zero_add] at hv;cases y with
 |inl y=>exact congrArg (fun z=>some (z,())) hv
 |inr y=>exact congrArg (fun z=>some (z,())) hv
def Ig (l:List Int):Nat->Nat
 |0=>0
 |k+1=>match l[k]? with
  |some c=>if iX c then Ig l k else k+1
  |none=>0
theorem ML (l:List Int) (hl:l.length<1000000000):∀ (k n:Nat),k<=l.length->k+1<=n->yg n l (k:Int)=some ((((Ig l k:Nat):Int),()),()):=by
 intro k
 induction k with
 |zero=>
  intro n hk hn;obtain ⟨n,rfl⟩:∃ k,n=k+1:=⟨n - 1,by omega⟩;rfl
 |succ k ih=>
  intro n hk hn;obtain ⟨n,rfl⟩:∃ k,n=k+1:=⟨n - 1,by omega⟩;have w:zap (((k+1:Nat):Int) - 1)=(k:Int):=by rw [af]<;>omega
  have e0:(Int.toNat (k:Int))=k:=rfl;have e3:l[k]? =some l[k]:=zan (by omega);simp only [yg,aB (show (0:Int)<((k+1:Nat):Int) by omega),w,ao (show (0:Int)<=(k:Int) by omega),zac,e0,e3,zaa,dT,Ig];cases iX l[k] with
  |true=>simp only [zac,if_true];exact ih n (by omega) (by omega)
  |false=>rfl
theorem Nv (n:Nat) (l:List Int) (flow:Bool) (hl:l.length<1000000000) (hn:l.length+30<=n):SV n l flow=some (((Ig l (lp flow false l):Nat):Int),()):=by
 unfold SV;have:=QA flow l false;rw [Me n l flow hl hn];simp only [zaa];rw [ML l hl _ (n+7) this (by omega)];rfl
def K9 (l:List Int):Bool:=l.all fun c=>FL c &&(decide (c≠10) &&(decide (c≠13) &&decide (c≠65279)))
theorem GD (l:List Int) (hl:l.length<1000000000):∀ (r:List Int) (i n:Nat),l.drop i=r->r.length+1<=n->i<=l.length->ry n l (len l) (i:Int)=if K9 r then some (.inl ((),())) else some (.inr ((false,()),())):=by
 intro r
 induction r with
 |nil=>
  intro i n hr hn hi;obtain ⟨n,rfl⟩:∃ k,n=k+1:=⟨n - 1,by simp at hn;omega⟩;have hlen:l.length<=i:=by simpa using hr
  simp only [ry,aR (show len l<=(i:Int) by unfold len;omega),zab];rfl
 |cons c r ih=>
  intro i n hr hn hi;obtain ⟨n,rfl⟩:∃ k,n=k+1:=⟨n - 1,by simp at hn;omega⟩;simp only [zad] at hn;have hlen:l.length=i+r.length+1:=by
   have:=congrArg List.length hr;simp at this;omega
  have e0:(Int.toNat (i:Int))=i:=rfl;have hx:l[i]? =some c:=by have:=aH hr 0;simpa using this
  have w:zap ((i:Int)+1)=((i+1:Nat):Int):=by rw [af]<;>omega
  have hd:l.drop (i+1)=r:=by rw [←zal,hr];rfl
  have hc:K9 (c::r)=((FL c &&(decide (c≠10) &&(decide (c≠13) &&decide (c≠65279)))) &&K9 r):=rfl;simp only [ry,aB (show (i:Int)<len l by unfold len;omega),ao (show (0:Int)<=i by omega),zac,e0,hx,zaa,w,oM,ih (i+1) n hd (by omega) (by omega),hc,kp];cases FL c with
  |false=>rfl
  |true=>
   by_cases h1:c=10<;>by_cases h2:c=13<;>by_cases h3:c=65279<;>simp [h1,h2,h3]
theorem tU (n:Nat) (l:List Int) (hl:l.length<1000000000) (hn:l.length+1<=n):single n l=some (K9 l,()):=by
 unfold single;have:=GD l hl l 0 n rfl hn (by omega);refine (congrArg (fun z=>Option.bind z _) this).trans ?_;cases K9 l<;>rfl
set_option maxRecDepth 10000
theorem iU (n:Nat) (c:Int):kR n c=some (FL c,()):=by
 unfold kR FL;simp only [dc,eO,kp];by_cases h1:c=9
 ·subst h1;rfl
 by_cases h2:c=10
 ·subst h2;rfl
 by_cases h3:c=13
 ·subst h3;rfl
 by_cases h4:c=133
 ·subst h4;rfl
 simp only [h1,h2,h3,h4,decide_false,zab,false_or];by_cases h5:(32:Int)<=c<;>by_cases h6:c<=126<;>simp only [h5,h6,decide_true,decide_false,zac,zab,zaa,true_and,false_and,_root_.and_true,_root_.and_false,true_or,false_or]<;>
 by_cases h7:(160:Int)<=c<;>by_cases h8:c<55296<;>by_cases h9:(57344:Int)<=c<;>by_cases h10:c<=65533<;>by_cases h11:(65536:Int)<=c<;>
 simp only [h7,h8,h9,h10,h11,decide_true,decide_false,zac,zab,zaa,true_and,false_and,true_or,false_or,_root_.or_true,_root_.or_false]<;>
 first
 |rfl
 |(exfalso;omega)
 |(refine congrArg (fun b=>some (b,())) ?_;first |(symm;apply decide_eq_true;omega) |(symm;apply decide_eq_false;omega) |(apply decide_eq_decide.2;omega))
attribute [local irreducible] kR
theorem Q3 (c:Int):(bif (c==(32:Int)) then some true else some (c==(9:Int)):Option Bool)=some (iX c):=by
 unfold iX;rw [TM,kp,kp,Bool.decide_or]
theorem Ip (n:Nat) (c:Int) (hn:10<=n):dH n ([44,91,93,123,125]:List UInt8) c=some (na M7 c,()):=lZ n M7 c (by decide) (by show 5<=n;omega)
theorem U6 (n:Nat) (c:Int) (hn:30<=n):dH n ([45,63,58,44,91,93,123,125,35,38,42,33,124,62,39,34,37,64,96]:List UInt8) c=some (na U2 c,()):=lZ n U2 c (by decide) (by show 19<=n;omega)
theorem nU (n:Nat) (c:Int) (flow:Bool) (hn:10<=n):ta n c flow=some (PZ c flow,()):=by
 unfold ta;simp only [iU,Q3,zaa,Ip n c hn,PZ,VD];cases FL c<;>cases iX c<;>simp only [zac,zab,zag,Bool.not_false,zak,Bool.false_and]
 by_cases h1:c=10<;>by_cases h2:c=13<;>by_cases h3:c=65279<;>simp only [h1,h2,h3,ne_eq,not_true,not_false_eq_true,decide_true,decide_false,zac,zab,zak,Bool.false_and]<;>cases flow<;>simp
attribute [local irreducible] ta dH
theorem vD (n:Nat) (l:List Int) (flow:Bool) (hn:30<=n) (hl:l.length<1000000000):my n l flow=some (T8 flow l,()):=by
 unfold my;cases l with
 |nil=>rfl
 |cons c r=>
  have e1:(len (c::r)==(0:Int))=false:=by unfold len;simp;omega
  have e2:(bif (c==(45:Int)) then some true else bif (c==(63:Int)) then some true else some (c==(58:Int)):Option Bool)=some (decide (c=45∨c=63∨c=58)):=by
   simp only [TM,kp,Bool.decide_or]
  simp only [e1,zab,List.getElem?_cons_zero,zaa,nU (n+1) c flow (by omega),e2,U6 (n+2) c (by omega),T8];cases PZ c flow with
  |false=>rfl
  |true=>
   simp only [zag,zab,zak];by_cases h:c=45∨c=63∨c=58
   ·simp only [h,decide_true,zac,if_true]
    cases r with
    |nil=>rfl
    |cons d r=>
     have e3:aX (1:Int) (len (c::d::r))=true:=aB (by unfold len;simp;omega);have e4:(c::d::r)[1]? =some d:=rfl;simp only [e3,e4,zac,zaa,nU n d flow (by omega),NX]
   ·simp only [h,decide_false,zab,if_false]
theorem JH (l:List Int) (flow:Bool) (hl:l.length<1000000000):∀ (r:List Int) (i n:Nat),l.drop i=r->r.length+30<=n->i<=l.length->
  (∃ y,cO n l flow (i:Int)=some y/\(match y with | .inl y=>len y.1.1 | .inr y=>y.1.1)=((i+lp flow (NK l i) r:Nat):Int)):=by
 intro r
 induction r with
 |nil=>
  intro i n hr hn hi;obtain ⟨n,rfl⟩:∃ k,n=k+1:=⟨n - 1,by simp at hn;omega⟩;have hlen:l.length<=i:=by simpa using hr
  refine ⟨_,by simp only [cO,aR (show len l<=(i:Int) by unfold len;omega),zab];rfl,?_⟩
  show len l=_
  unfold len;simp only [lp];omega
 |cons c r ih=>
  intro i n hr hn hi;obtain ⟨n,rfl⟩:∃ k,n=k+1:=⟨n - 1,by simp at hn;omega⟩;simp only [zad] at hn;have hlen:l.length=i+r.length+1:=by
   have:=congrArg List.length hr;simp at this;omega
  have e0:(Int.toNat (i:Int))=i:=rfl;have e0':(Int.toNat ((i+1:Nat):Int))=i+1:=rfl;have hx:l[i]? =some c:=by have:=aH hr 0;simpa using this
  have hx1:l[i+1]? =r[0]? :=by have:=aH hr 1;simpa using this
  have w:zap ((i:Int)+1)=((i+1:Nat):Int):=by rw [af]<;>omega
  have w2:1<=i->zap ((i:Int) - 1)=((i - 1:Nat):Int):=fun h=>by rw [af]<;>omega
  have hd:l.drop (i+1)=r:=by rw [←zal,hr];rfl
  obtain ⟨y,hy,hv⟩:=ih (i+1) n hd (by omega) (by omega);rw [Fk hx] at hv;have fin:∀ k:Nat,i+1+k=i+(1+k):=fun k=>by omega
  have ez:i=0∨1<=i:=by omega
  have hpv:1<=i->∃ d,l[i - 1]? =some d/\NK l i=iX d:=fun h=>by
   have h2:i - 1<l.length:=by omega
   refine ⟨l[i - 1],zan h2,?_⟩;unfold NK;simp [h,zan h2]
  have hi0:aX (i:Int) (len l)=true:=aB (by unfold len;omega);have hi1:au (0:Int) (i:Int)=true:=ao (by omega);have hi2:au (0:Int) ((i+1:Nat):Int)=true:=ao (by omega);have hf:=Ip (n+3) c (by omega);by_cases a1:c=58
  ·subst a1
   have q1:((58:Int)==58)=true:=rfl;have q2:((58:Int)==35)=false:=rfl;cases r with
   |nil=>
    have e3:aX ((i+1:Nat):Int) (len l)=false:=aR (by unfold len;simp at hlen;omega);refine ⟨_,by simp only [cO,hi0,hi1,zac,zab,e0,hx,zaa,w,q1,e3];rfl,?_⟩;simp [lp,NX]
   |cons d r=>
    have e3:aX ((i+1:Nat):Int) (len l)=true:=aB (by unfold len;simp at hlen;omega);have hx2:l[i+1]? =some d:=hx1;have hs:=nU (n+1) d flow (by omega);cases hsf:PZ d flow with
    |true=>
     rw [hsf] at hs;have hS:NX flow (d::r)=true:=hsf;have res:cO (n+1) l flow (i:Int)=some y:=by
      cases flow with
      |false=>simp only [cO,hi0,hi1,hi2,zac,zab,e0,e0',hx,hx2,zaa,w,q1,q2,e3,hs,zag,hy]
      |true=>simp only [cO,hi0,hi1,hi2,zac,zab,e0,e0',hx,hx2,zaa,w,q1,q2,e3,hs,zag,hf,od,hy]
     refine ⟨y,res,?_⟩;rw [hv,fin];simp only [lp,hS,od];simp
    |false=>
     rw [hsf] at hs;have hS:NX flow (d::r)=false:=hsf;refine ⟨_,by simp only [cO,hi0,hi1,hi2,zac,zab,e0,e0',hx,hx2,zaa,w,q1,e3,hs,Bool.not_false];rfl,?_⟩;simp [lp,hS]
  have q1:(c==58)=false:=by simp [a1]
  by_cases a2:c=35
  ·subst a2
   have q2:((35:Int)==35)=true:=rfl;rcases ez with rfl |h1
   ·have e5:aX (0:Int) ((0:Nat):Int)=false:=rfl
    have res:cO (n+1) l flow ((0:Nat):Int)=some y:=by
     cases flow with
     |false=>simp only [cO,hi0,hi1,zac,zab,e0,hx,zaa,w,q1,q2,e5,hy]
     |true=>simp only [cO,hi0,hi1,zac,zab,e0,hx,zaa,w,q1,q2,e5,hf,fF,hy]
    refine ⟨y,res,?_⟩;rw [hv,fin];have:NK l 0=false:=rfl;simp only [lp,this,fF];simp
   ·obtain ⟨d,hd1,hd2⟩:=hpv h1
    have e5:aX (0:Int) (i:Int)=true:=aB (by omega);have e6:(Int.toNat ((i - 1:Nat):Int))=i - 1:=rfl;have e7:au (0:Int) ((i - 1:Nat):Int)=true:=ao (by omega);cases hb:iX d with
    |false=>
     have res:cO (n+1) l flow (i:Int)=some y:=by
      cases flow with
      |false=>simp only [cO,hi0,hi1,zac,zab,e0,e6,e7,hx,zaa,w,w2 h1,q1,q2,e5,hd1,Q3,hb,hy]
      |true=>simp only [cO,hi0,hi1,zac,zab,e0,e6,e7,hx,zaa,w,w2 h1,q1,q2,e5,hd1,Q3,hb,hf,fF,hy]
     refine ⟨y,res,?_⟩;rw [hv,fin];simp only [lp,hd2,hb,fF];simp
    |true=>
     refine ⟨_,by simp only [cO,hi0,hi1,zac,zab,e0,e6,e7,hx,zaa,w2 h1,q1,q2,e5,hd1,Q3,hb];rfl,?_⟩;simp [lp,hd2,hb]
  have q2:(c==35)=false:=by simp [a2]
  cases flow with
  |false=>
   refine ⟨y,?_,?_⟩
   ·simp only [cO,hi0,hi1,zac,zab,e0,hx,zaa,w,q1,q2,hy]
   ·rw [hv,fin]
    simp [lp,a1,a2]
  |true=>
   cases ha:na M7 c with
   |false=>
    rw [ha] at hf;refine ⟨y,?_,?_⟩
    ·simp only [cO,hi0,hi1,zac,zab,e0,hx,zaa,w,q1,q2,hf,hy]
    ·rw [hv,fin]
     simp [lp,a1,a2,ha]
   |true=>
    rw [ha] at hf;refine ⟨_,by simp only [cO,hi0,hi1,zac,zab,e0,hx,zaa,q1,q2,hf];rfl,?_⟩;simp [lp,ha]
theorem I8 (n:Nat) (l:List Int) (flow:Bool) (hl:l.length<1000000000) (hn:l.length+30<=n):Ko n l flow=some (((lp flow false l:Nat):Int),()):=by
 unfold Ko;obtain ⟨y,hy,hv⟩:=JH l flow hl l 0 n rfl hn (by omega);refine (congrArg (fun z=>Option.bind z _) hy).trans ?_;simp only [zaa];have e:NK l 0=false:=rfl;rw [e,Nat.zero_add] at hv;cases y with
 |inl y=>exact congrArg (fun z=>some (z,())) hv
 |inr y=>exact congrArg (fun z=>some (z,())) hv
theorem Ib (l:List Int) (hl:l.length<1000000000):∀ (k n:Nat),k<=l.length->k+1<=n->FV n l (k:Int)=some ((((Ig l k:Nat):Int),()),()):=by
 intro k
 induction k with
 |zero=>
  intro n hk hn;obtain ⟨n,rfl⟩:∃ k,n=k+1:=⟨n - 1,by omega⟩;rfl
 |succ k ih=>
  intro n hk hn;obtain ⟨n,rfl⟩:∃ k,n=k+1:=⟨n - 1,by omega⟩;have w:zap (((k+1:Nat):Int) - 1)=(k:Int):=by rw [af]<;>omega
  have e0:(Int.toNat (k:Int))=k:=rfl;have e3:l[k]? =some l[k]:=zan (by omega);simp only [FV,aB (show (0:Int)<((k+1:Nat):Int) by omega),w,ao (show (0:Int)<=(k:Int) by omega),zac,e0,e3,zaa,Q3,Ig];cases iX l[k] with
  |true=>simp only [zac,if_true];exact ih n (by omega) (by omega)
  |false=>rfl
theorem vR (n:Nat) (l:List Int) (flow:Bool) (hl:l.length<1000000000) (hn:l.length+30<=n):mz n l flow=some (((Ig l (lp flow false l):Nat):Int),()):=by
 unfold mz;have:=QA flow l false;rw [I8 n l flow hl hn];simp only [zaa];rw [Ib l hl _ (n+5) this (by omega)];rfl
theorem DU (l:List Int) (hl:l.length<1000000000):∀ (r:List Int) (i n:Nat),l.drop i=r->r.length+1<=n->i<=l.length->BS n l (i:Int)=if K9 r then some (.inl ((),())) else some (.inr ((false,()),())):=by
 intro r
 induction r with
 |nil=>
  intro i n hr hn hi;obtain ⟨n,rfl⟩:∃ k,n=k+1:=⟨n - 1,by simp at hn;omega⟩;have hlen:l.length<=i:=by simpa using hr
  simp only [BS,aR (show len l<=(i:Int) by unfold len;omega),zab];rfl
 |cons c r ih=>
  intro i n hr hn hi;obtain ⟨n,rfl⟩:∃ k,n=k+1:=⟨n - 1,by simp at hn;omega⟩;simp only [zad] at hn;have hlen:l.length=i+r.length+1:=by
   have:=congrArg List.length hr;simp at this;omega
  have e0:(Int.toNat (i:Int))=i:=rfl;have hx:l[i]? =some c:=by have:=aH hr 0;simpa using this
  have w:zap ((i:Int)+1)=((i+1:Nat):Int):=by rw [af]<;>omega
  have hd:l.drop (i+1)=r:=by rw [←zal,hr];rfl
  have hc:K9 (c::r)=((FL c &&(decide (c≠10) &&(decide (c≠13) &&decide (c≠65279)))) &&K9 r):=rfl;simp only [BS,aB (show (i:Int)<len l by unfold len;omega),ao (show (0:Int)<=i by omega),zac,e0,hx,zaa,w,iU,ih (i+1) n hd (by omega) (by omega),hc,kp];cases FL c with
  |false=>rfl
  |true=>
   by_cases h1:c=10<;>by_cases h2:c=13<;>by_cases h3:c=65279<;>simp [h1,h2,h3]
theorem Di (n:Nat) (l:List Int) (hl:l.length<1000000000) (hn:l.length+1<=n):singleR n l=some (K9 l,()):=by
 unfold singleR;have:=DU l hl l 0 n rfl hn (by omega);refine (congrArg (fun z=>Option.bind z _) this).trans ?_;cases K9 l<;>rfl
def Nn (l:List Int):Bool:=l.all fun c=>FL c &&(decide (c≠13) &&decide (c≠65279))
theorem Dy (l t0:List Int) (fl:Bool) (hl:l.length<1000000000):∀ (r:List Int) (i n:Nat),l.drop i=r->r.length+1<=n->i<=l.length->ri n t0 fl l (len l) (i:Int)=if Nn r then some (.inl ((t0,(fl,())),())) else some (.inr ((false,()),())):=by
 intro r
 induction r with
 |nil=>
  intro i n hr hn hi;obtain ⟨n,rfl⟩:∃ k,n=k+1:=⟨n - 1,by simp at hn;omega⟩;have hlen:l.length<=i:=by simpa using hr
  simp only [ri,aR (show len l<=(i:Int) by unfold len;omega),zab];rfl
 |cons c r ih=>
  intro i n hr hn hi;obtain ⟨n,rfl⟩:∃ k,n=k+1:=⟨n - 1,by simp at hn;omega⟩;simp only [zad] at hn;have hlen:l.length=i+r.length+1:=by
   have:=congrArg List.length hr;simp at this;omega
  have e0:(Int.toNat (i:Int))=i:=rfl;have hx:l[i]? =some c:=by have:=aH hr 0;simpa using this
  have w:zap ((i:Int)+1)=((i+1:Nat):Int):=by rw [af]<;>omega
  have hd:l.drop (i+1)=r:=by rw [←zal,hr];rfl
  have hc:Nn (c::r)=((FL c &&(decide (c≠13) &&decide (c≠65279))) &&Nn r):=rfl;simp only [ri,aB (show (i:Int)<len l by unfold len;omega),ao (show (0:Int)<=i by omega),zac,e0,hx,zaa,w,oM,ih (i+1) n hd (by omega) (by omega),hc,kp];cases FL c with
  |false=>rfl
  |true=>
   by_cases h2:c=13<;>by_cases h3:c=65279<;>simp [h2,h3]
theorem Cw (n:Nat) (l:List Int) (fl:Bool) (hl:l.length<1000000000) (hn:l.length+1<=n):literal n l fl=some (Nn l &&(!fl &&decide (0<l.length)),()):=by
 unfold literal;have:=Dy l l fl hl l 0 n rfl hn (by omega);refine (congrArg (fun z=>Option.bind z _) this).trans ?_;have e:aX (0:Int) (len l)=decide (0<l.length):=by
  rw [eO];unfold len;simp
 cases Nn l with
 |false=>rfl
 |true=>
  simp only [if_true,zaa,e];cases fl<;>rfl
theorem Nh (l:List Int) (st:Int) (hl:l.length<1000000000):∀ (r:List Int) (i n:Nat),l.drop i=r->r.length+1<=n->i<=l.length->oO n st l (i:Int)=if Nn r then some (.inl ((st,(l,())),())) else some (.inr ((false,()),())):=by
 intro r
 induction r with
 |nil=>
  intro i n hr hn hi;obtain ⟨n,rfl⟩:∃ k,n=k+1:=⟨n - 1,by simp at hn;omega⟩;have hlen:l.length<=i:=by simpa using hr
  simp only [oO,aR (show len l<=(i:Int) by unfold len;omega),zab];rfl
 |cons c r ih=>
  intro i n hr hn hi;obtain ⟨n,rfl⟩:∃ k,n=k+1:=⟨n - 1,by simp at hn;omega⟩;simp only [zad] at hn;have hlen:l.length=i+r.length+1:=by
   have:=congrArg List.length hr;simp at this;omega
  have e0:(Int.toNat (i:Int))=i:=rfl;have hx:l[i]? =some c:=by have:=aH hr 0;simpa using this
  have w:zap ((i:Int)+1)=((i+1:Nat):Int):=by rw [af]<;>omega
  have hd:l.drop (i+1)=r:=by rw [←zal,hr];rfl
  have hc:Nn (c::r)=((FL c &&(decide (c≠13) &&decide (c≠65279))) &&Nn r):=rfl;simp only [oO,aB (show (i:Int)<len l by unfold len;omega),ao (show (0:Int)<=i by omega),zac,e0,hx,zaa,w,iU,ih (i+1) n hd (by omega) (by omega),hc,kp];cases FL c with
  |false=>rfl
  |true=>
   by_cases h2:c=13<;>by_cases h3:c=65279<;>simp [h2,h3]
def sD:Bool->List Int->Bool
 |_,[]=>true
 |nl,c::r=>if iX c then !nl &&(match r with | []=>false |d::_=>decide (d≠10) &&(!iX d &&sD false r)) else sD (decide (c=10)) r
def Tv (l:List Int) (i:Nat):Bool:=match i with |0=>true |i+1=>match l[i]? with |some c=>decide (c=10) |none=>false
theorem Xi {c:Int} (h:iX c=true):c≠10:=by
 intro e;subst e;revert h;decide
theorem Ju (l:List Int) (hl:l.length<1000000000):∀ (r:List Int) (i n:Nat),l.drop i=r->r.length+1<=n->i<=l.length->lY n l (i:Int)=if sD (Tv l i) r then some (.inl ((),())) else some (.inr ((false,()),())):=by
 intro r
 induction r with
 |nil=>
  intro i n hr hn hi;obtain ⟨n,rfl⟩:∃ k,n=k+1:=⟨n - 1,by simp at hn;omega⟩;have hlen:l.length<=i:=by simpa using hr
  simp only [lY,aR (show len l<=(i:Int) by unfold len;omega),zab];rfl
 |cons c r ih=>
  intro i n hr hn hi;obtain ⟨n,rfl⟩:∃ k,n=k+1:=⟨n - 1,by simp at hn;omega⟩;simp only [zad] at hn;have hlen:l.length=i+r.length+1:=by
   have:=congrArg List.length hr;simp at this;omega
  have e0:(Int.toNat (i:Int))=i:=rfl;have e0':(Int.toNat ((i+1:Nat):Int))=i+1:=rfl;have hx:l[i]? =some c:=by have:=aH hr 0;simpa using this
  have hx1:l[i+1]? =r[0]? :=by have:=aH hr 1;simpa using this
  have w:zap ((i:Int)+1)=((i+1:Nat):Int):=by rw [af]<;>omega
  have hd:l.drop (i+1)=r:=by rw [←zal,hr];rfl
  have IH:=ih (i+1) n hd (by omega) (by omega);have hnl:Tv l (i+1)=decide (c=10):=by unfold Tv;simp only [hx]
  have hi0:aX (i:Int) (len l)=true:=aB (by unfold len;omega);have hi1:au (0:Int) (i:Int)=true:=ao (by omega);have hi2:au (0:Int) ((i+1:Nat):Int)=true:=ao (by omega);cases hb:iX c with
  |false=>
   have e:sD (Tv l i) (c::r)=sD (decide (c=10)) r:=by simp only [sD,hb];simp
   simp only [lY,hi0,hi1,zac,e0,hx,zaa,Q3,hb,Bool.not_false,w];rw [e,IH,hnl]
  |true=>
   have hc10:=Xi hb;have hnl2:Tv l (i+1)=false:=by rw [hnl];simp [hc10]
   rw [hnl2] at IH;cases hnb:Tv l i with
   |true=>
    have e:sD true (c::r)=false:=by simp only [sD,hb];simp
    rw [e];cases i with
    |zero=>
     have e5:(((0:Nat):Int)==0)=true:=rfl;simp only [lY,hi0,hi1,zac,zab,e0,hx,zaa,Q3,hb,zag,e5];rfl
    |succ j=>
     have h2:j<l.length:=by omega
     have e6:l[j]? =some l[j]:=zan h2;simp only [Tv,e6,decide_eq_true_eq] at hnb;have e5:(((j+1:Nat):Int)==0)=false:=by simp;omega
     have w2:zap (((j+1:Nat):Int) - 1)=((j:Nat):Int):=by rw [af]<;>omega
     have e7:(Int.toNat (j:Int))=j:=rfl;have e8:au (0:Int) (j:Int)=true:=ao (by omega);rw [hnb] at e6;have e9:((10:Int)==10)=true:=rfl;simp only [lY,hi0,hi1,zac,zab,e0,hx,zaa,Q3,hb,zag,e5,w2,e7,e8,e6,e9];rfl
   |false=>
    cases i with
    |zero=>cases hnb
    |succ j=>
     have h2:j<l.length:=by omega
     have e6:l[j]? =some l[j]:=zan h2;simp only [Tv,e6,decide_eq_false_iff_not] at hnb;have e5:(((j+1:Nat):Int)==0)=false:=by simp;omega
     have w2:zap (((j+1:Nat):Int) - 1)=((j:Nat):Int):=by rw [af]<;>omega
     have e7:(Int.toNat (j:Int))=j:=rfl;have e8:au (0:Int) (j:Int)=true:=ao (by omega);have e9:(l[j]==10)=false:=by simp [hnb]
     cases r with
     |nil=>
      have e10:(((j+1+1:Nat):Int)==len l)=true:=by unfold len;simp at hlen ⊢;omega
      have e:sD false [c]=false:=by simp only [sD,hb];rfl
      rw [e];simp only [lY,hi0,hi1,zac,zab,e0,hx,zaa,Q3,hb,zag,e5,w,w2,e7,e8,e6,e9,e10];rfl
     |cons d r=>
      have e10:(((j+1+1:Nat):Int)==len l)=false:=by unfold len;simp at hlen ⊢;omega
      have hx2:l[j+1+1]? =some d:=hx1;have e:sD false (c::d::r)=(decide (d≠10) &&(!iX d &&sD false (d::r))):=by simp only [sD,hb];simp
      rw [e];have e11:(d==10)=decide (d=10):=kp d 10;simp only [lY,hi0,hi1,hi2,zac,zab,e0,e0',hx,hx2,zaa,Q3,hb,zag,e5,w,w2,e7,e8,e6,e9,e10,IH,e11];by_cases h10:d=10
      ·simp [h10]
      ·cases iX d<;>simp [h10]
theorem xD (n:Nat) (l:List Int) (hl:l.length<1000000000) (hn:l.length+1<=n):kb n l=some (sD true l,()):=by
 unfold kb;have:=Ju l hl l 0 n rfl hn (by omega);refine (congrArg (fun z=>Option.bind z _) this).trans ?_;have e:Tv l 0=true:=rfl;rw [e];cases sD true l<;>rfl
end Go.Proofs.YteknbnkjelmfaaaGreatDoor
namespace Go.Proofs.YteknbnkjelmfaaaGreatDoor.V
open Go Go.Iv Go.Gv
theorem iT {α:Type} (l:List α) (k:Nat):List.take (l.length - k) (List.drop k l)=List.drop k l:=by
 rw [List.take_of_length_le];rw [List.length_drop];exact zam _
theorem bQ {n:Nat} (h:n<=1000000):room n=true:=JX (Nat.le_trans h (by decide))
def pre:List UInt8->List UInt8->Bool
 | [],_=>true
 |_::_,[]=>false
 |a::r,b::s=>(b==a) &&pre r s
theorem mB:∀ (x s:List UInt8),pre x s=true->x.length<=s.length
 | [],_,_=>Nat.zero_le _
 |_::_,[],h=>by cases h
 |a::r,b::s,h=>by
  simp only [pre,zae] at h;have:=mB r s h.2;simp only [zad];omega
theorem Gx:∀ (x s:List UInt8),x.length<=s.length->(List.take x.length s==x)=pre x s
 | [],_,_=>rfl
 |_::_,[],h=>by simp at h
 |a::r,b::s,h=>by
  simp only [zad] at h;have:=Gx r s (by omega);simp only [zad,List.take_succ_cons,pre,←this];rfl
theorem Bb:∀ (x s:List UInt8),s.length<x.length->pre x s=false
 | [],_,h=>by simp at h
 |_::_,[],h=>rfl
 |a::r,b::s,h=>by
  simp only [zad] at h;simp only [pre,Bb r s (by omega),Bool.and_false]
theorem eI (n:Nat) (s x:List UInt8):fH n s x=some (pre x s,()):=by
 unfold fH len;by_cases h:x.length<=s.length
 ·simp only [ao (show ((x.length:Nat):Int)<=(s.length:Nat) by omega),zac,List.drop_zero,Nat.sub_zero,Int.toNat_natCast,Gx x s h]
 ·simp only [kZ (show ((s.length:Nat):Int)<(x.length:Nat) by omega),zab,Bb x s (by omega)]
theorem gT (n:Nat) (s x:List UInt8):kc n s x=some (pre x s,()):=eI n s x
theorem fj (n:Nat) (s x:List UInt8):hasPrefix n s x=some (pre x s,()):=by
 unfold hasPrefix;rw [eI];rfl
theorem vg (n:Nat) (s x:List UInt8):trimPrefix n s x=some (bif pre x s then List.drop x.length s else s,()):=by
 unfold trimPrefix len;rw [eI];cases h:pre x s with
 |false=>rfl
 |true=>
  have:=mB x s h;simp only [zaa,zac,ao (show ((x.length:Nat):Int)<=(s.length:Nat) by omega),Int.toNat_natCast,iT]
theorem lD (n:Nat) (s x:List UInt8):jO n s x=some (bif pre x s then List.drop x.length s else s,pre x s,()):=by
 unfold jO len;rw [eI];cases h:pre x s with
 |false=>rfl
 |true=>
  have:=mB x s h;simp only [zaa,zag,zab,zac,ao (show ((x.length:Nat):Int)<=(s.length:Nat) by omega),Int.toNat_natCast,iT]
def oP:List UInt8->List UInt8×Bool
 | []=>([],false)
 |c::r=>bif c==45 then (r,true) else bif c==43 then (r,false) else (c::r,false)
theorem XP (a c:UInt8) (r:List UInt8):pre [a] (c::r)=(c==a):=by simp only [pre,Bool.and_true]
theorem jk (n:Nat) (s:List UInt8):signed n s=some ((oP s).1,(oP s).2,()):=by
 unfold signed;rw [fj,vg];cases s with
 |nil=>rfl
 |cons c r=>
  simp only [zaa,XP,oP,iT,ao (show (1:Int)<=len (c::r) by simp only [len,zad];omega)];cases c==45<;>cases c==43<;>rfl
theorem Lr (s:List UInt8):(oP s).1.length<=s.length:=by
 cases s with
 |nil=>exact zam _
 |cons c r=>
  simp only [oP];cases c==45<;>cases c==43<;>simp
def E5 (c:UInt8):Bool:=Nat.ble 48 c.toNat &&Nat.ble c.toNat 57
def run (s:List UInt8):List UInt8:=s.takeWhile E5
theorem JN (s:List UInt8):(run s).length<=s.length:=(List.takeWhile_prefix E5).length_le
theorem JI (s:List UInt8):∀ (m i n:Nat),i+m=s.length->s.length<=1000000->m+1<=n->rU n s (i:Int)=some ((((i+(run (s.drop i)).length:Nat):Int),()),()):=by
 intro m
 induction m with
 |zero=>
  intro i n h hs hn;obtain ⟨n,rfl⟩:∃ k,n=k+1:=⟨n - 1,by omega⟩;simp only [rU,len,aR (show ((s.length:Nat):Int)<=(i:Int) by omega),zab,zaa,List.drop_eq_nil_of_le (show s.length<=i by omega)];rfl
 |succ m ih=>
  intro i n h hs hn;obtain ⟨n,rfl⟩:∃ k,n=k+1:=⟨n - 1,by omega⟩;have hi:i<s.length:=by omega
  have w:zap ((i:Int)+1)=((i+1:Nat):Int):=by rw [af]<;>omega
  have z:Go.Iv.au (0:Int) (i:Int)=true:=ao (by omega);rw [List.drop_eq_getElem_cons hi];simp only [rU,len,aB (show (i:Int)<((s.length:Nat):Int) by omega),z,zac,Int.toNat_natCast,zan hi,zaa,w];generalize hc:s[i]=c;simp only [run,List.takeWhile,E5];have e1:UInt8.toNat 48=48:=rfl;have e2:UInt8.toNat 57=57:=rfl;rw [e1,e2];cases h1:Nat.ble 48 c.toNat with
  |false=>simp only [zab,zaa,Bool.false_and];rfl
  |true=>
   simp only [zac,zaa,zak];cases h2:Nat.ble c.toNat 57 with
   |false=>simp only [zab];rfl
   |true=>
    simp only [zac];rw [ih (i+1) n (by omega) hs (by omega)];simp only [run,zad]
    congr 4;omega
theorem ox (n:Nat) (s:List UInt8) (hs:s.length<=1000000) (hn:s.length<=n):count n s=some (((run s).length:Int),()):=by
 unfold count;have:=JI s s.length 0 (n+1) (by omega) hs (by omega);rw [show (0:Int)=((0:Nat):Int) from rfl,this,List.drop_zero,Nat.zero_add];rfl
theorem Gp (s:List UInt8):s.take (run s).length=run s:=by
 have h:=(List.takeWhile_prefix E5 (l:=s));exact (List.prefix_iff_eq_take.1 h).symm
theorem X0 (n:Nat) (c:UInt8):∀ (s:List UInt8) (n:Nat),s.length+1<=n->wb n s c=some ((s.dropWhile (· ==c),()),())
 | [],n,h=>by
  obtain ⟨n,rfl⟩:∃ k,n=k+1:=⟨n - 1,by omega⟩;rfl
 |x::r,n,h=>by
  obtain ⟨n,rfl⟩:∃ k,n=k+1:=⟨n - 1,by omega⟩;simp only [zad] at h
  simp only [wb,len,aB (show (0:Int)<(((x::r).length:Nat):Int) by simp only [zad];omega),ao (show (1:Int)<=(((x::r).length:Nat):Int) by simp only [zad];omega),
   cond_true,List.getElem?_cons_zero,zaa,iT,List.dropWhile]
  cases x==c with
  |false=>rfl
  |true=>exact X0 n c r n (by omega)
theorem jj (n:Nat) (s:List UInt8) (c:UInt8) (hn:s.length<=n):fh n s c=some (s.dropWhile (· ==c),()):=by
 unfold fh;rw [X0 0 c s (n+1) (by omega)];rfl
def fE (s:List UInt8):List UInt8:=(s.reverse.dropWhile (· ==48)).reverse
theorem Ca (s:List UInt8) (x:UInt8):fE (s++ [x])=bif x==48 then fE s else s++ [x]:=by
 unfold fE;rw [List.reverse_append];simp only [List.reverse_cons,List.reverse_nil,List.nil_append,List.singleton_append,List.dropWhile];cases x==48 with
 |false=>simp
 |true=>rfl
theorem MO (s:List UInt8):(fE s).length<=s.length:=by
 unfold fE;rw [List.length_reverse];have:=(List.dropWhile_suffix (· ==(48:UInt8)) (l:=s.reverse)).length_le
 rwa [List.length_reverse] at this
theorem last_cases {α:Type} (s:List α):s= []∨∃ r x,s=r++ [x]:=by
 rcases List.eq_nil_or_concat s with h |⟨r,x,h⟩
 ·exact .inl h
 ·exact .inr ⟨r,x,by rw [h,List.concat_eq_append]⟩
theorem Yh:∀ (m:Nat) (s:List UInt8) (n:Nat),s.length=m->s.length<=1000000->m+1<=n->wW n s 48=some ((fE s,()),()):=by
 intro m
 induction m with
 |zero=>
  intro s n h _ hn;obtain ⟨n,rfl⟩:∃ k,n=k+1:=⟨n - 1,by omega⟩;cases s with
  |nil=>rfl
  |cons=>cases h
 |succ m ih=>
  intro s n h hs hn;obtain ⟨n,rfl⟩:∃ k,n=k+1:=⟨n - 1,by omega⟩;rcases last_cases s with rfl |⟨r,x,rfl⟩
  ·cases h
  have hl:(r++ [x]).length=r.length+1:=by simp
  rw [hl] at h hs;have w:zap ((((r.length+1:Nat)):Int) - 1)=(r.length:Int):=by rw [af]<;>omega
  have hg:(r++ [x])[r.length]? =some x:=by simp
  simp only [wW,len,hl,w,aB (show (0:Int)<((r.length+1:Nat):Int) by omega),ao (show (0:Int)<=(r.length:Int) by omega),ao (show (r.length:Int)<=((r.length+1:Nat):Int) by omega),zac,Int.toNat_natCast,hg,zaa,zai,Nat.sub_zero,List.drop_zero,
   Ca,List.take_left]
  cases x==48 with
  |false=>rfl
  |true=>exact ih r n (by omega) (by omega) (by omega)
theorem oI (n:Nat) (s:List UInt8) (hs:s.length<=1000000) (hn:s.length<=n):dG n s 48=some (fE s,()):=by
 unfold dG;rw [Yh _ s (n+1) rfl hs (by omega)];rfl
end Go.Proofs.YteknbnkjelmfaaaGreatDoor.V
