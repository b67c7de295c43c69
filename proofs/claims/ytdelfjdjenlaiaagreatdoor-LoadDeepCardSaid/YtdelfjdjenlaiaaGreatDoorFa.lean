/- Plain functions for the program's. -/
import Derived.Test.YtdelfjdjenlaiaaGreatDoorGs
import Derived.Test.YtdelfjdjenlaiaaGreatDoorProg
import Derived.KernelRfl
set_option linter.unusedSimpArgs false
set_option linter.unusedVariables false
namespace Go.Proofs.YtdelfjdjenlaiaaGreatDoor
open Go Go.Iv Go.Gv
set_option maxRecDepth 100000
noncomputable def is (_n:Nat) (c:Int):Option d8:=
 Option.bind (bif (aQ 0 c) then
 bif (aQ c 1114111) then
 bif (aR c 55296) then
 some true
 else
 none
 else
 none
 else
 none) fun b1=>
 some (b1,())
noncomputable def Rk:bu:=⟨25,[(false,am)],[(false,.bool)],0,fun n x=>is n x.1⟩
theorem Vr (n:Nat):aI Tryz.prog hint aG Rk n:=
 aI.of (hk:=fun β=>(an.mk [] []).hk β) (sh:=aG) (fun m _=>ab.aK ab.nil m) (fun x=>by kernel_rfl)
noncomputable def wQ:Tm:=⟨[(2,.one (.int .i32)),(3,ac)],[],64,64,1000⟩
noncomputable def LM:Tm:=⟨[(0,.one (.aC .byte)),(6,.one (.aC .byte)),(7,ac),(8,ac)],[],64,64,1000⟩
noncomputable def OX:Nat->d7->d7->Int->Int->Option (g7×Unit)
 |0,_,_,_,_=>none
 |_+1,_,t6,t7,t8=>
 bif (aR t8 t7) then
 bif (aQ 0 t8) then
 Option.bind (t6[(Int.toNat t8)]?) fun x2=>
 bif (Nat.blt (UInt8.toNat x2) (UInt8.toNat (128:UInt8))) then
 some (((IntKind.wrap Go.IntKind.i32 (ub x2)),(1,())),())
 else
 none
 else none
 else
 none
noncomputable def Fl:aM:=⟨81,2,none,LM,[(.ret,wQ)],0,fun n x=>OX n x.1.1 x.1.2.1 x.1.2.2.1 x.1.2.2.2.1,[],[]⟩
theorem zB:wQ.ok Tryz.prog hint:=Tm.dq rfl
theorem yI:LM.ok Tryz.prog hint:=Tm.dq rfl
theorem PV:∀ n,ao Tryz.prog hint aG Fl n:=
 ao.of (hk:=fun β=>(an.mk [] []).hk β) (sh:=aG) (aL.of (by kernel_rfl)) yI ⟨⟨zB,zai _,zai _⟩,trivial⟩ (fun m=>ab.aK ab.nil m)
  (fun _=>by kernel_rfl) (fun m x=>by kernel_rfl)
noncomputable def dr (n:Nat) (p:List UInt8):Option g7:=
 Option.bind (OX (n+1) p p (len p) 0) fun y3=>
 some (y3.1.1,y3.1.2.1,())
noncomputable def US:bu:=⟨81,[(false,(.aJ .byte))],[(false,(.int .i32)),(false,am)],1,fun n x=>dr n x.1⟩
theorem XT (n:Nat):aI Tryz.prog hint aG US n:=
 aI.of (hk:=fun β=>(an.mk [] [Fl]).hk β) (sh:=aG) (fun m _=>ab.aK (ab.nil.loop PV yI) m) (fun x=>by kernel_rfl)
noncomputable def wM:Tm:=⟨[(4,.one (.bool))],[],65,65,1001⟩
noncomputable def Lr:Tm:=⟨[(1,.one (.aC .byte)),(8,.agg [be,be,be,be]),(9,ac)],[],65,65,1001⟩
noncomputable def Bw:Nat->d7->Int->Int->Int->Int->Int->Option lw
 |0,_,_,_,_,_,_=>none
 |n+1,t1,t8_0,t8_1,t8_2,t8_3,t9=>
 bif (aR t9 4) then
 bif (t9==3) then
 bif (t8_3==(-2)) then
 none
 else
 bif (aQ (len t1) t9) then
 none
 else
 Option.bind (bif (t8_3==(-1)) then
 bif (aQ 0 t9) then
 Option.bind (t1[(Int.toNat t9)]?) fun x49=>
 some (x49==(0:UInt8))
 else none
 else
 some false) fun b50=>
 bif b50 then
 some ((false,()),())
 else
 Option.bind (bif (aQ 0 t8_3) then
 bif (aQ 0 t9) then
 Option.bind (t1[(Int.toNat t9)]?) fun x52=>
 some ((zal (ub x52)) !=t8_3)
 else none
 else
 some false) fun b53=>
 bif b53 then
 some ((false,()),())
 else
 Bw n t1 t8_0 t8_1 t8_2 t8_3 (zal (t9+1))
 else
 bif (t9==2) then
 bif (t8_2==(-2)) then
 none
 else
 bif (aQ (len t1) t9) then
 none
 else
 Option.bind (bif (t8_2==(-1)) then
 bif (aQ 0 t9) then
 Option.bind (t1[(Int.toNat t9)]?) fun x55=>
 some (x55==(0:UInt8))
 else none
 else
 some false) fun b56=>
 bif b56 then
 some ((false,()),())
 else
 Option.bind (bif (aQ 0 t8_2) then
 bif (aQ 0 t9) then
 Option.bind (t1[(Int.toNat t9)]?) fun x58=>
 some ((zal (ub x58)) !=t8_2)
 else none
 else
 some false) fun b59=>
 bif b59 then
 some ((false,()),())
 else
 Bw n t1 t8_0 t8_1 t8_2 t8_3 (zal (t9+1))
 else
 bif (t9==1) then
 bif (t8_1==(-2)) then
 none
 else
 bif (aQ (len t1) t9) then
 none
 else
 Option.bind (bif (t8_1==(-1)) then
 bif (aQ 0 t9) then
 Option.bind (t1[(Int.toNat t9)]?) fun x61=>
 some (x61==(0:UInt8))
 else none
 else
 some false) fun b62=>
 bif b62 then
 some ((false,()),())
 else
 Option.bind (bif (aQ 0 t8_1) then
 bif (aQ 0 t9) then
 Option.bind (t1[(Int.toNat t9)]?) fun x64=>
 some ((zal (ub x64)) !=t8_1)
 else none
 else
 some false) fun b65=>
 bif b65 then
 some ((false,()),())
 else
 Bw n t1 t8_0 t8_1 t8_2 t8_3 (zal (t9+1))
 else
 bif (t9==0) then
 bif (t8_0==(-2)) then
 none
 else
 bif (aQ (len t1) t9) then
 none
 else
 Option.bind (bif (t8_0==(-1)) then
 bif (aQ 0 t9) then
 Option.bind (t1[(Int.toNat t9)]?) fun x67=>
 some (x67==(0:UInt8))
 else none
 else
 some false) fun b68=>
 bif b68 then
 some ((false,()),())
 else
 Option.bind (bif (aQ 0 t8_0) then
 bif (aQ 0 t9) then
 Option.bind (t1[(Int.toNat t9)]?) fun x70=>
 some ((zal (ub x70)) !=t8_0)
 else none
 else
 some false) fun b71=>
 bif b71 then
 some ((false,()),())
 else
 Bw n t1 t8_0 t8_1 t8_2 t8_3 (zal (t9+1))
 else
 none
 else
 none
noncomputable def Ge:aM:=⟨45,2,none,Lr,[(.ret,wM)],0,fun n x=>Bw n x.1.1 x.1.2.1.1 x.1.2.1.2.1 x.1.2.1.2.2.1 x.1.2.1.2.2.2.1 x.1.2.2.1,[64],[]⟩
theorem za:wM.ok Tryz.prog hint:=Tm.dq rfl
theorem wK:Lr.ok Tryz.prog hint:=Tm.dq rfl
theorem O6:∀ n,ao Tryz.prog hint aG Ge n:=
 ao.of (hk:=fun β=>(an.mk [] []).hk β) (sh:=aG) (aL.of (by kernel_rfl)) wK ⟨⟨za,zai _,zai _⟩,trivial⟩ (fun m=>ab.aK ab.nil m)
  (fun _=>by kernel_rfl) (fun m x=>by kernel_rfl)
noncomputable def fits (n:Nat) (r:(Int×(Int×(Int×(Int×gt))))) (b:List UInt8):Option d8:=
 Option.bind (Bw (n+1) b r.2.2.1 r.2.2.2.1 r.2.2.2.2.1 r.2.2.2.2.2 0) fun y72=>
 some (y72.1.1,())
noncomputable def Lv:bu:=⟨45,[(true,(.cons am (.cons am (.cons am (.cons am (.cons am am)))))),(false,(.aJ .byte))],[(false,.bool)],1,fun n x=>fits n x.1 x.2.1⟩
theorem S6 (n:Nat):aI Tryz.prog hint aG Lv n:=
 aI.of (hk:=fun β=>(an.mk [] [Ge]).hk β) (sh:=aG) (fun m _=>ab.aK (ab.nil.loop O6 wK) m) (fun x=>by kernel_rfl)
noncomputable def p9:Tm:=⟨[],[],65,65,1001⟩
noncomputable def Lk:Tm:=⟨[(0,.one (.aC .byte)),(6,.one (.all 65 104 (.cons am (.cons am (.cons am (.cons am (.cons am am))))) .no)),(7,ac),(8,ac)],[],65,66,1001⟩
noncomputable def RX:Nat->d7->(List (Int×(Int×(Int×(Int×gt)))))->Int->Int->Option d9
 |0,_,_,_,_=>none
 |n+1,t0,t6,t7,t8=>
 bif (aR t8 t7) then
 bif ((aQ 0 t8) &&(aR t8 (len t6))) then
 Option.bind (t6[(Int.toNat t8)]?) fun x4=>
 Option.bind (fits (n+1) (x4.1,(x4.2.1,(x4.2.2.1,(x4.2.2.2.1,(x4.2.2.2.2.1,x4.2.2.2.2.2))))) t0) fun y5=>
 bif y5.1 then
 none
 else
 RX n t0 t6 t7 (zal (t8+1))
 else none
 else
 some ((),())
noncomputable def FN:aM:=⟨23,2,none,Lk,[(.exit 0,p9)],2,fun n x=>RX n x.1.1 x.1.2.1 x.1.2.2.1 x.1.2.2.2.1,[],[]⟩
theorem uG:p9.ok Tryz.prog hint:=Tm.dq rfl
theorem vy:Lk.ok Tryz.prog hint:=Tm.dq rfl
theorem R1:∀ n,ao Tryz.prog hint aG FN n:=
 ao.of (hk:=fun β=>(an.mk [Lv] []).hk β) (sh:=aG) (aL.of (by kernel_rfl)) vy ⟨⟨uG,zai _,zai _⟩,trivial⟩ (fun m=>ab.aK (ab.nil.fn S6) m)
  (fun _=>by kernel_rfl) (fun m x=>by kernel_rfl)
noncomputable def form (n:Nat) (b:List UInt8):Option g7:=
 Option.bind (RX n b ((4,(4,(0,(0,(254,255)))))::((5,(4,(255,(254,(0,0)))))::((2,(2,(254,(255,((-2),(-2))))))::((3,(2,(255,(254,((-2),(-2))))))::((1,(3,(239,(187,(191,(-2))))))::((4,(0,(0,(0,(0,(-1))))))::((5,(0,((-1),(0,(0,0)))))::((2,(0,(0,((-1),((-2),(-2))))))::((3,(0,((-1),(0,((-2),(-2)))))):: []))))))))) 9 0) fun _=>
 some (1,0,())
noncomputable def LR:bu:=⟨23,[(false,(.aJ .byte))],[(false,am),(false,am)],2,fun n x=>form n x.1⟩
theorem Tp (n:Nat):aI Tryz.prog hint aG LR n:=
 aI.of (hk:=fun β=>(an.mk [] [FN]).hk β) (sh:=aG) (fun m _=>ab.aK (ab.nil.loop R1 vy) m) (fun x=>by kernel_rfl)
noncomputable def kK:Tm:=⟨[],[(64,.cells 24 [.fix (TV.raw (Go.Value.slice (Option.none) 0 0))] true),(65,.cells 27 [be] true),(66,.cells 24 [.all 69 3 am .ex] true),(67,.cells 30 [.aC .byte] true),(68,.loop 13 Go.LoopState.ready (Option.none) (jy Tryz.prog hint 13) [(2,.one (.fix (TV.ptr 64 0))),(3,.one (.fix (TV.ptr 65 0))),(6,.one (.fix (TV.ptr 66 0)))] (aH Tryz.prog 13 7).1 (aH Tryz.prog 13 7).2.1 (aH Tryz.prog 13 7).2.2)],69,70,1005⟩
noncomputable def Dv:Tm:=⟨[(0,.one (.fix (TV.mX 68))),(1,.one (.fix (TV.ptr 67 0)))],[(64,.cells 24 [.fix (TV.raw (Go.Value.slice (Option.none) 0 0))] true),(65,.cells 27 [be] true),(66,.cells 24 [.all 69 3 am .ex] true),(67,.cells 30 [.aC .byte] true),(68,.loop 13 Go.LoopState.ready (Option.none) (jy Tryz.prog hint 13) [(2,.one (.fix (TV.ptr 64 0))),(3,.one (.fix (TV.ptr 65 0))),(6,.one (.fix (TV.ptr 66 0)))] (aH Tryz.prog 13 7).1 (aH Tryz.prog 13 7).2.1 (aH Tryz.prog 13 7).2.2)],69,70,1005⟩
noncomputable def tF:Nat->Int->bv->d7->Option (Unit×(d9×(dg×(g6×(jp×(md×Unit))))))
 |0,_,_,_=>none
 |n+1,c65_0,c66_0,c67_0=>
 bif (aR 0 (len c67_0)) then
 Option.bind (dr (n+1) c67_0) fun y13=>
 Option.bind (bif (y13.1==65533) then
 none
 else
 some false) fun b15=>
 bif b15 then
 none
 else
 Option.bind (is (n+1) (zal y13.1)) fun y16=>
 bif (!y16.1) then
 none
 else
 bif (room (((List.length c66_0)+(List.length ((zal y13.1)::([]:List Int))))*9)) then
 bif ((aQ 0 y13.2.1) &&(aQ y13.2.1 (len c67_0))) then
 tF n c65_0 (c66_0++((zal y13.1)::([]:List Int))) (List.take ((List.length c67_0) - (Int.toNat y13.2.1)) (List.drop (Int.toNat y13.2.1) c67_0))
 else none
 else none
 else
 some ((),(((),()),((c65_0,()),((c66_0,()),((c67_0,()),(((),((),((),()))),()))))))
noncomputable def GZ:aM:=⟨80,0,none,Dv,[(.exit 0,kK)],2,fun n x=>tF n x.2.2.1.1 x.2.2.2.1.1 x.2.2.2.2.1.1,[],[64,65]⟩
theorem uI:kK.ok Tryz.prog hint:=by
 intro p hp;simp only [kK,List.mem_cons,List.not_mem_nil,or_false] at hp;rcases hp with rfl |rfl |rfl |rfl |rfl
 ·trivial
 ·trivial
 ·trivial
 ·trivial
 ·exact jJ.of (by kernel_rfl) (by kernel_rfl)
theorem xT:Dv.ok Tryz.prog hint:=by
 intro p hp;simp only [Dv,List.mem_cons,List.not_mem_nil,or_false] at hp;rcases hp with rfl |rfl |rfl |rfl |rfl
 ·trivial
 ·trivial
 ·trivial
 ·trivial
 ·exact jJ.of (by kernel_rfl) (by kernel_rfl)
theorem P8:∀ n,ao Tryz.prog hint aG GZ n:=
 ao.of (hk:=fun β=>(an.mk [Rk,US] []).hk β) (sh:=aG) (aL.of (by kernel_rfl)) xT ⟨⟨uI,zai _,zai _⟩,trivial⟩ (fun m=>ab.aK ((ab.nil.fn XT).fn Vr) m)
  (fun _=>by kernel_rfl) (fun m x=>by kernel_rfl)
noncomputable def points (n:Nat) (b:List UInt8):Option (bv×dg):=
 bif (aR 1048576 (len b)) then
 none
 else
 Option.bind (form n b) fun y0=>
 bif ((aQ 0 y0.2.1) &&(aQ y0.2.1 (len b))) then
 bif (y0.1==2) then
 none
 else
 bif (y0.1==3) then
 none
 else
 bif (y0.1==4) then
 none
 else
 bif (y0.1==5) then
 none
 else
 Option.bind (tF n 0 ([]:List Int) (List.take ((List.length b) - (Int.toNat y0.2.1)) (List.drop (Int.toNat y0.2.1) b))) fun y17=>
 some (y17.2.2.2.1.1,0,())
 else none
noncomputable def AX:bu:=⟨13,[(false,(.aJ .byte))],[(false,(.aJ am)),(false,am)],3,fun n x=>points n x.1⟩
theorem Mf (n:Nat):aI Tryz.prog hint aG AX n:=
 aI.of (hk:=fun β=>(an.mk [LR] [GZ]).hk β) (sh:=aG) (fun m _=>ab.aK ((ab.nil.fn Tp).loop P8 xT) m) (fun x=>by kernel_rfl)
noncomputable def print (_n:Nat) (c:Int):Option d8:=
 bif (c==9) then
 none
 else
 bif (c==10) then
 none
 else
 bif (c==13) then
 none
 else
 bif (c==133) then
 none
 else
 Option.bind (bif (aQ 32 c) then
 some (aQ c 126)
 else
 some false) fun b1=>
 bif b1 then
 some (true,())
 else
 none
noncomputable def wJ:bu:=⟨26,[(false,am)],[(false,.bool)],1,fun n x=>print n x.1⟩
theorem Ei (n:Nat):aI Tryz.prog hint aG wJ n:=
 aI.of (hk:=fun β=>(an.mk [] []).hk β) (sh:=aG) (fun m _=>ab.aK ab.nil m) (fun x=>by kernel_rfl)
noncomputable def pX:Tm:=⟨[(0,.one (.aC am)),(2,.one (.fix (TV.raw (Go.Value.slice (Option.none) 0 0)))),(3,ac)],[],64,64,1000⟩
noncomputable def Kj:Tm:=⟨[(0,.one (.aC am)),(2,.one (.fix (TV.raw (Go.Value.slice (Option.none) 0 0)))),(3,ac),(9,.one (.aC am)),(10,ac),(11,ac)],[],64,64,1000⟩
noncomputable def As:Nat->bv->Int->bv->Int->Int->Option ((bv×(Unit×dg))×Unit)
 |0,_,_,_,_,_=>none
 |n+1,t0,t3,t9,t10,t11=>
 bif (aR t11 t10) then
 bif (aQ 0 t11) then
 Option.bind (t9[(Int.toNat t11)]?) fun x4=>
 Option.bind (print (n+1) x4) fun y5=>
 bif (!y5.1) then
 none
 else
 bif (x4==65279) then
 none
 else
 As n t0 t3 t9 t10 (zal (t11+1))
 else none
 else
 some ((t0,((),(t3,()))),())
noncomputable def FP:aM:=⟨14,2,none,Kj,[(.exit 0,pX)],2,fun n x=>As n x.1.1 x.1.2.2.1 x.1.2.2.2.1 x.1.2.2.2.2.1 x.1.2.2.2.2.2.1,[],[]⟩
theorem ug:pX.ok Tryz.prog hint:=Tm.dq rfl
theorem xd:Kj.ok Tryz.prog hint:=Tm.dq rfl
theorem O7:∀ n,ao Tryz.prog hint aG FP n:=
 ao.of (hk:=fun β=>(an.mk [wJ] []).hk β) (sh:=aG) (aL.of (by kernel_rfl)) xd ⟨⟨ug,zai _,zai _⟩,trivial⟩ (fun m=>ab.aK (ab.nil.fn Ei) m)
  (fun _=>by kernel_rfl) (fun m x=>by kernel_rfl)
noncomputable def pM:Tm:=⟨[],[],67,67,3005⟩
noncomputable def Lb:Tm:=⟨[(0,.one (.aC am)),(1,.one (.fix (TV.fn 52 [] []))),(7,ac),(8,ac)],[],67,67,3005⟩
noncomputable def Bg:Nat->bv->Int->Int->Option d9
 |0,_,_,_=>none
 |n+1,t0,t7,t8=>
 bif (aR t8 t7) then
 bif (aQ 0 t8) then
 Option.bind (t0[(Int.toNat t8)]?) fun x13=>
 Option.bind (bif (x13==10) then
 none
 else
 some (x13==13)) fun b15=>
 bif b15 then
 none
 else
 Bg n t0 t7 (zal (t8+1))
 else none
 else
 some ((),())
noncomputable def Fc:aM:=⟨51,2,none,Lb,[(.exit 0,pM)],1,fun n x=>Bg n x.1.1 x.1.2.2.1 x.1.2.2.2.1,[64,65,66],[]⟩
theorem uD:pM.ok Tryz.prog hint:=Tm.dq rfl
theorem wD:Lb.ok Tryz.prog hint:=Tm.dq rfl
theorem OL:∀ n,ao Tryz.prog hint aG Fc n:=
 ao.of (hk:=fun β=>(an.mk [] []).hk β) (sh:=aG) (aL.of (by kernel_rfl)) wD ⟨⟨uD,zai _,zai _⟩,trivial⟩ (fun m=>ab.aK ab.nil m)
  (fun _=>by kernel_rfl) (fun m x=>by kernel_rfl)
noncomputable def gd:Tm:=⟨[(6,.one (.fix (TV.ptr 64 0))),(7,.one (.aC am)),(8,ac)],[(64,.cells 47 [.fix (TV.raw (Go.Value.slice (Option.none) 0 0))] true),(66,.loop 14 Go.LoopState.busy (Option.none) (jy Tryz.prog hint 14) [(6,.one (.fix (TV.ptr 64 0)))] (aH Tryz.prog 14 10).1 (aH Tryz.prog 14 10).2.1 (aH Tryz.prog 14 10).2.2)],67,67,4007⟩
noncomputable def mF:Tm:=⟨[(6,.one (.fix (TV.ptr 64 0))),(7,.one (.aC am)),(8,ac)],[(64,.cells 47 [.fix (TV.raw (Go.Value.slice (Option.none) 0 0))] true),(66,.loop 14 Go.LoopState.busy (Option.none) (jy Tryz.prog hint 14) [(6,.one (.fix (TV.ptr 64 0)))] (aH Tryz.prog 14 10).1 (aH Tryz.prog 14 10).2.1 (aH Tryz.prog 14 10).2.2)],67,67,4007⟩
noncomputable def rY:Nat->bv->Int->Option ((Unit×(bv×dg))×(d9×(d9×Unit)))
 |0,_,_=>none
 |_+1,t7,t8=>
 Option.bind (bif (aR t8 (len t7)) then
 bif (aQ 0 t8) then
 Option.bind (t7[(Int.toNat t8)]?) fun x24=>
 some (x24==32)
 else none
 else
 none) fun b25=>
 bif b25 then
 none
 else
 some (((),(t7,(t8,()))),(((),()),(((),()),())))
noncomputable def pS:aM:=⟨14,11,some 66,mF,[(.exit 4,gd)],0,fun n x=>rY n x.1.2.1 x.1.2.2.1,[65],[64]⟩
theorem nr:gd.ok Tryz.prog hint:=by
 intro p hp;simp only [gd,List.mem_cons,List.not_mem_nil,or_false] at hp;rcases hp with rfl |rfl
 ·trivial
 ·exact jJ.of (by kernel_rfl) (by kernel_rfl)
theorem mu:mF.ok Tryz.prog hint:=by
 intro p hp;simp only [mF,List.mem_cons,List.not_mem_nil,or_false] at hp;rcases hp with rfl |rfl
 ·trivial
 ·exact jJ.of (by kernel_rfl) (by kernel_rfl)
theorem Dt:∀ n,ao Tryz.prog hint aG pS n:=
 ao.of (hk:=fun β=>(an.mk [] []).hk β) (sh:=aG) (aL.of (by kernel_rfl)) mu ⟨⟨nr,zai _,zai _⟩,trivial⟩ (fun m=>ab.aK ab.nil m)
  (fun _=>by kernel_rfl) (fun m x=>by kernel_rfl)
noncomputable def oL:Tm:=⟨[],[(64,.cells 47 [.all 67 75 (.cons am (.aJ am)) .ex] true),(65,.cells 24 [.aC am] true),(66,.loop 14 Go.LoopState.ready (Option.none) (jy Tryz.prog hint 14) [(6,.one (.fix (TV.ptr 64 0)))] (aH Tryz.prog 14 10).1 (aH Tryz.prog 14 10).2.1 (aH Tryz.prog 14 10).2.2)],67,68,2004⟩
noncomputable def CT:Tm:=⟨[(0,.one (.fix (TV.mX 66))),(1,.one (.fix (TV.ptr 65 0)))],[(64,.cells 47 [.fix (TV.raw (Go.Value.slice (Option.none) 0 0))] true),(65,.cells 24 [.aC am] true),(66,.loop 14 Go.LoopState.ready (Option.none) (jy Tryz.prog hint 14) [(6,.one (.fix (TV.ptr 64 0)))] (aH Tryz.prog 14 10).1 (aH Tryz.prog 14 10).2.1 (aH Tryz.prog 14 10).2.2)],67,67,2004⟩
noncomputable def LO:Nat->bv->Option (Unit×((bi×Unit)×(g6×(d9×Unit))))
 |0,_=>none
 |n+1,c65_0=>
 bif (aR 0 (len c65_0)) then
 Option.bind (Bg (n+1) c65_0 (len c65_0) 0) fun _=>
 Option.bind (rY (n+2) c65_0 0) fun y30=>
 bif ((aQ 0 y30.1.2.2.1) &&(aQ y30.1.2.2.1 (len y30.1.2.1))) then
 bif (!(List.isEmpty (List.take ((List.length y30.1.2.1) - (Int.toNat y30.1.2.2.1)) (List.drop (Int.toNat y30.1.2.2.1) y30.1.2.1)))) then
 bif (room ((0+(List.length (List.take ((List.length y30.1.2.1) - (Int.toNat y30.1.2.2.1)) (List.drop (Int.toNat y30.1.2.2.1) y30.1.2.1))))*9)) then
 some ((),((((y30.1.2.2.1,(([]:List Int)++(List.take ((List.length y30.1.2.1) - (Int.toNat y30.1.2.2.1)) (List.drop (Int.toNat y30.1.2.2.1) y30.1.2.1)))):: []),()),((c65_0,()),(((),()),()))))
 else none
 else none
 else none
 else
 none
noncomputable def GN:aM:=⟨50,0,none,CT,[(.ret,oL)],2,fun n x=>LO n x.2.2.1.1,[],[65]⟩
theorem zw:oL.ok Tryz.prog hint:=by
 intro p hp;simp only [oL,List.mem_cons,List.not_mem_nil,or_false] at hp;rcases hp with rfl |rfl |rfl
 ·trivial
 ·trivial
 ·exact jJ.of (by kernel_rfl) (by kernel_rfl)
theorem xg:CT.ok Tryz.prog hint:=by
 intro p hp;simp only [CT,List.mem_cons,List.not_mem_nil,or_false] at hp;rcases hp with rfl |rfl |rfl
 ·trivial
 ·trivial
 ·exact jJ.of (by kernel_rfl) (by kernel_rfl)
theorem PT:∀ n,ao Tryz.prog hint aG GN n:=
 ao.of (hk:=fun β=>(an.mk [] [pS,Fc]).hk β) (sh:=aG) (aL.of (by kernel_rfl)) xg ⟨⟨zw,zai _,zai _⟩,trivial⟩ (fun m=>ab.aK ((ab.nil.loop OL wD).loop Dt mu) m)
  (fun _=>by kernel_rfl) (fun m x=>by kernel_rfl)
noncomputable def kd (n:Nat) (l:List Int):Option (bi×dg):=
 Option.bind (As (n+1) l 0 l (len l) 0) fun y6=>
 Option.bind (LO n y6.1.1) fun y31=>
 some (y31.2.1.1,0,())
noncomputable def qt:bu:=⟨14,[(false,(.aJ am))],[(false,(.aJ (.cons am (.aJ am)))),(false,am)],3,fun n x=>kd n x.1⟩
theorem Cn (n:Nat):aI Tryz.prog hint aG qt n:=
 aI.of (hk:=fun β=>(an.mk [] [GN,FP]).hk β) (sh:=aG) (fun m _=>ab.aK ((ab.nil.loop O7 xd).loop PT xg) m) (fun x=>by kernel_rfl)
noncomputable def nN:Tm:=⟨[(3,.one (.all 64 5 .byte .ex))],[],64,65,1000⟩
noncomputable def Ez:Tm:=⟨[(3,.one (.all 64 5 .byte .ex)),(6,.one (.aC am)),(7,ac),(8,ac)],[],64,65,1000⟩
noncomputable def IY:Nat->d7->bv->Int->Int->Option (jp×Unit)
 |0,_,_,_,_=>none
 |n+1,t3,t6,t7,t8=>
 bif (aR t8 t7) then
 bif (aQ 0 t8) then
 Option.bind (t6[(Int.toNat t8)]?) fun x6=>
 Option.bind (is (n+1) x6) fun y7=>
 bif (!y7.1) then
 none
 else
 bif (aQ (IntKind.wrap Go.IntKind.u32 (IntKind.wrap Go.IntKind.i32 x6)) 127) then
 bif (room (((List.length t3)+(List.length ((UInt8.ofNat (Int.toNat (IntKind.wrap Go.IntKind.u8 (IntKind.wrap Go.IntKind.i32 x6))))::([]:List UInt8))))*2)) then
 IY n (t3++((UInt8.ofNat (Int.toNat (IntKind.wrap Go.IntKind.u8 (IntKind.wrap Go.IntKind.i32 x6))))::([]:List UInt8))) t6 t7 (zal (t8+1))
 else none
 else
 none
 else none
 else
 some ((t3,()),())
noncomputable def Bb:aM:=⟨186,3,none,Ez,[(.exit 0,nN)],1,fun n x=>IY n x.1.1 x.1.2.1 x.1.2.2.1 x.1.2.2.2.1,[],[]⟩
theorem rQ:nN.ok Tryz.prog hint:=Tm.dq rfl
theorem tB:Ez.ok Tryz.prog hint:=Tm.dq rfl
theorem Mw:∀ n,ao Tryz.prog hint aG Bb n:=
 ao.of (hk:=fun β=>(an.mk [Rk] []).hk β) (sh:=aG) (aL.of (by kernel_rfl)) tB ⟨⟨rQ,zai _,zai _⟩,trivial⟩ (fun m=>ab.aK (ab.nil.fn Vr) m)
  (fun _=>by kernel_rfl) (fun m x=>by kernel_rfl)
noncomputable def bytes (n:Nat) (l:List Int):Option jp:=
 Option.bind (IY n ([]:List UInt8) l (len l) 0) fun y8=>
 some (y8.1.1,())
noncomputable def E8:bu:=⟨186,[(false,(.aJ am))],[(false,(.aJ .byte))],1,fun n x=>bytes n x.1⟩
theorem Rj (n:Nat):aI Tryz.prog hint aG E8 n:=
 aI.of (hk:=fun β=>(an.mk [] [Bb]).hk β) (sh:=aG) (fun m _=>ab.aK (ab.nil.loop Mw tB) m) (fun x=>by kernel_rfl)
end Go.Proofs.YtdelfjdjenlaiaaGreatDoor
