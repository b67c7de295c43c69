/- Plain functions for the program's. -/
import Derived.Test.YteknbnkjelmfaaaGreatDoorGs
import Derived.Test.YteknbnkjelmfaaaGreatDoorProg
set_option linter.unusedSimpArgs false
set_option linter.unusedVariables false
set_option maxRecDepth 200000
namespace Go.Proofs.YteknbnkjelmfaaaGreatDoor
open Go Go.Iv Go.Gv
abbrev LZ:=LP Tryz.prog hint s8
abbrev FZ:=FO Tryz.prog hint s8
noncomputable def hex (_n:Nat) (c:Int):Option dg:=
 (cond (ak 48 c) (some (ak c 57))<|some false).bind fun b1=>
 cond b1 (some ((zao (c - 48)),()))<|(cond (ak 97 c) (some (ak c 102))<|some false).bind fun b3=>
 cond b3 (some ((zao ((zao (c - 97))+10)),()))<|(cond (ak 65 c) (some (ak c 70))<|some false).bind fun b5=>
 cond b5 (some ((zao ((zao (c - 65))+10)),()))<|some ((-1),())
theorem MG:FZ ⟨122,[(false,am)],[(false,am)],1,fun n x=>hex n x.1⟩:=dv ab.nil
noncomputable def word (_n:Nat) (c:Int):Option bv:=
 (cond (ak 48 c) (some (ak c 57))<|some false).bind fun b1=>
 cond b1 (some (true,()))<|(cond (ak 97 c) (some (ak c 122))<|some false).bind fun b3=>
 cond b3 (some (true,()))<|(cond (ak 65 c) (some (ak c 90))<|some false).bind fun b5=>
 cond b5 (some (true,()))<|some ((c==45),())
theorem Qg:FZ ⟨123,[(false,am)],[(false,.bool)],1,fun n x=>word n x.1⟩:=dv ab.nil
noncomputable def mn:Nat->be->ce->Int->Int->Option (d7⊕(dg×Unit))
 |0,_,_,_,_=>none
 |n+1,t0,t34,t35,t36=>
 cond (aD t36 t35) (cond (ak 0 t36) ((t34[(Int.toNat t36)]?).bind fun x11=>
 (t0[0]?).bind fun x12=>
 cond (x12==(zao (ub x11))) (some (.inr ((1,()),())))<|mn n t0 t34 t35 (zao (t36+1))) none)<|some (.inl ((),()))
theorem DJ:LZ ⟨107,10,none,⟨[(0,.one (.aB am)),(34,.one (.aB .byte)),(35,ac),(36,ac)],[],64,64,1000⟩,[(.exit 0,⟨[],[],64,64,1000⟩),(.ret,⟨[(2,ac)],[],64,64,1000⟩)],0,fun n x=>mn n x.1.1 x.1.2.1 x.1.2.2.1 x.1.2.2.2.1,[],[]⟩:=fG ab.nil
noncomputable def sign (n:Nat) (l:List Int):Option dg:=
 cond ((len l)==0) (some (0,()))<|(l[0]?).bind fun x0=>
 cond (x0==37) (cond (aD 2 (len l)) ((l[1]?).bind fun x1=>
 (hex n x1).bind fun y2=>
 cond (ak 0 y2.1) ((l[2]?).bind fun x3=>
 (hex n x3).bind fun y4=>
 cond (ak 0 y4.1) (some (3,()))<|some (0,()))<|some (0,()))<|some (0,()))<|(l[0]?).bind fun x5=>
 (word n x5).bind fun y6=>
 cond y6.1 (some (1,()))<|(mn (n+2) l ([35,59,47,63,58,64,38,61,43,36,44,95,46,33,126,42,39,40,41,91,93]:List UInt8) 21 0).bind fun y13=>
 match y13 with
 | .inl _=>
 some (0,())
 | .inr y15=>
 some (y15.1.1,())
noncomputable def G8:fH:=⟨107,[(false,(.bH am))],[(false,am)],2,fun n x=>sign n x.1⟩
theorem Qx:FZ G8:=dv (((ab.nil.fn MG).fn Qg).lp DJ)
noncomputable def xJ:Nat->be->ce->Int->Int->Option (d6×Unit)
 |0,_,_,_,_=>none
 |n+1,t3,t7,t8,t9=>
 cond (aD t9 t8) (cond (ak 0 t9) ((t7[(Int.toNat t9)]?).bind fun x3=>
 cond (room (((List.length t3)+(List.length ((zao (ub x3))::([]:List Int))))*9)) (xJ n (t3++((zao (ub x3))::([]:List Int))) t7 t8 (zao (t9+1))) none) none)<|some ((t3,()),())
theorem L2:LZ ⟨54,3,none,⟨[FS 3 64 .ex,(7,.one (.aB .byte)),(8,ac),(9,ac)],[],64,65,1000⟩,[(.exit 0,⟨[FS 3 64 .ex],[],64,65,1000⟩)],0,fun n x=>xJ n x.1.1 x.1.2.1 x.1.2.2.1 x.1.2.2.2.1,[],[]⟩:=fG ab.nil
noncomputable def lN:Tm:=⟨[],[(65,m8),(66,.cells 80 [.fix (TV.fn 78 [] [])] true),(67,m9),(68,m8),(69,.loop 77 Go.LoopState.ready (Option.none) (k8 Tryz.prog hint 77) [EQ 2 65,EQ 3 66,EQ 5 67] (aJ Tryz.prog 77 5).1 (aJ Tryz.prog 77 5).2.1 (aJ Tryz.prog 77 5).2.2)],70,70,2008⟩
noncomputable def vi:Tm:=⟨[(0,.one (.fix (TV.mo 69))),EQ 1 68,(3,ac)],[(65,m8),(66,.cells 80 [.fix (TV.fn 78 [] [])] true),(67,m9),(68,m8),(69,.loop 77 Go.LoopState.ready (Option.none) (k8 Tryz.prog hint 77) [EQ 2 65,EQ 3 66,EQ 5 67] (aJ Tryz.prog 77 5).1 (aJ Tryz.prog 77 5).2.1 (aJ Tryz.prog 77 5).2.2)],70,70,2008⟩
noncomputable def qu:Nat->Int->be->Int->be->Option (Unit×(d6×(d7×(dg×(d6×((Unit×i7)×Unit))))))
 |0,_,_,_,_=>none
 |n+1,t3,c65_0,c67_0,c68_0=>
 cond ((ak 0 t3) &&(ak t3 (len c68_0))) ((sign (n+1) (List.take ((List.length c68_0) - (Int.toNat t3)) (List.drop (Int.toNat t3) c68_0))).bind fun y9=>
 cond (y9.1==0) (some ((),((c65_0,()),(((),()),((c67_0,()),((c68_0,()),(((),((),((),()))),())))))))<|cond (ak 0 t3) ((c65_0[(Int.toNat t3)]?).bind fun _=>
 qu n (zao (t3+y9.1)) c65_0 (zao (t3+y9.1)) c68_0) none) none
noncomputable def JB:bV:=⟨106,1,none,vi,[(.ret,lN)],3,fun n x=>qu n x.1.2.2.1 x.2.1.1 x.2.2.2.1.1 x.2.2.2.2.1.1,[64],[65,66,68]⟩
theorem um:lN.ok Tryz.prog hint:=by
 intro p hp;simp only [lN,List.mem_cons,List.not_mem_nil,or_false] at hp;rcases hp with rfl |rfl |rfl |rfl |rfl
 .trivial
 .trivial
 .trivial
 .trivial
 .exact oe.of (by kernel_rfl) (by kernel_rfl)
theorem sC:vi.ok Tryz.prog hint:=by
 intro p hp;simp only [vi,List.mem_cons,List.not_mem_nil,or_false] at hp;rcases hp with rfl |rfl |rfl |rfl |rfl
 .trivial
 .trivial
 .trivial
 .trivial
 .exact oe.of (by kernel_rfl) (by kernel_rfl)
theorem Hx:∀ n,cA Tryz.prog hint s8 JB n:=
 cA.of (hk:=fun Z=>(dq.mk [G8] []).hk Z) (sh:=s8) (eH.of (by kernel_rfl)) sC ⟨⟨um,zal _,zal _⟩,trivial⟩ (fun m=>ab.eR (ab.nil.fn Qx) m)
  (fun _=>by kernel_rfl) (fun m x=>by kernel_rfl)
noncomputable def valid (n:Nat) (tag:List UInt8):Option bv:=
 (xJ (n+5) ([]:List Int) tag (len tag) 0).bind fun y4=>
 cond (aD 0 (len y4.1.1)) ((qu n 0 y4.1.1 0 y4.1.1).bind fun y11=>
 some ((y11.2.2.2.1.1==(len y4.1.1)),()))<|some (false,())
theorem Kt:FZ ⟨54,[(false,.str)],[(false,.bool)],5,fun n x=>valid n x.1⟩:=dv ((ab.nil.lp L2).loop Hx sC)
noncomputable def uh (_n:Nat) (s:List UInt8):Option bv:=
 cond (ak (len s) 262144) (cond (Nat.ble (List.length s) 9223372036854775807) (some ((Go.Lib.validD s),())) none)<|some (false,())
theorem HW:FZ ⟨55,[(false,.str)],[(false,.bool)],1,fun n x=>uh n x.1⟩:=dv ab.nil
noncomputable def wP:Nat->be->Int->Int->bL->be->Option ((Unit×gt)⊕(bv×gt))
 |0,_,_,_,_,_=>none
 |n+1,t7,t8,t9,c64_0,c64_1=>
 cond (aD t9 t8) (cond (ak 0 t9) ((t7[(Int.toNat t9)]?).bind fun x2=>
 cond (aD x2 0) (some (.inr ((false,()),((c64_0,(c64_1,())),()))))<|cond (ak (len c64_0) x2) (some (.inr ((false,()),((c64_0,(c64_1,())),()))))<|wP n t7 t8 (zao (t9+1)) c64_0 c64_1) none)<|some (.inl ((),((c64_0,(c64_1,())),())))
theorem L7:LZ ⟨31,2,none,⟨[EQ 2 64,(7,.one (.aB am)),(8,ac),(9,ac)],[(64,ol)],65,65,1001⟩,[(.exit 0,⟨[],[(64,ol)],65,65,1001⟩),(.ret,⟨[(4,.one (.bool))],[(64,ol)],65,65,1001⟩)],0,fun n x=>wP n x.1.2.1 x.1.2.2.1 x.1.2.2.2.1 x.2.1.1 x.2.1.2.1,[],[64]⟩:=fG ab.nil
noncomputable def SP (n:Nat) (g:ip) (l:List Int):Option bv:=
 (wP (n+1) l (len l) 0 g.1 g.2).bind fun y3=>
 match y3 with
 | .inl _=>
 some (true,())
 | .inr y5=>
 some (y5.1.1,())
theorem MF:FZ ⟨31,[(true,(.cons (.bH bT) (.bH am))),(false,(.bH am))],[(false,.bool)],1,fun n x=>SP n x.1 x.2.1⟩:=dv (ab.nil.lp L7)
noncomputable def node (n:Nat) (x:(Int×ci)):Option bv:=
 cond (aD 1000 (len x.2.1)) (some (false,()))<|cond (x.2.1==([33]:List UInt8)) (some (false,()))<|(valid n x.2.1).bind fun y0=>
 cond (!y0.1) (some (false,()))<|cond (x.1==1) (cond ((len x.2.2.2.1)==0) ((uh (n+4) x.2.2.1).bind fun y1=>
 some (y1.1,()))<|some (false,()))<|cond (x.1==2) ((cond (x.2.2.1==([]:List UInt8)) (some (!x.2.2.2.2))<|some false).bind fun b3=>
 some (b3,()))<|cond (x.1==3) (cond (x.2.2.1==([]:List UInt8)) (cond (!x.2.2.2.2) (some (((Int.tmod (len x.2.2.2.1) 2)==0),()))<|some (false,()))<|some (false,()))<|some (false,())
theorem Pv:FZ ⟨32,[(true,bT)],[(false,.bool)],6,fun n x=>node n x.1⟩:=dv ((ab.nil.fn Kt).fn HW)
noncomputable def yk:Nat->Int->bL->Int->Int->bL->be->Option ((Unit×gt)⊕(bv×gt))
 |0,_,_,_,_,_,_=>none
 |n+1,t3,t24,t25,t26,c64_0,c64_1=>
 cond (aD t26 t25) (cond (ak 0 t26) ((t24[(Int.toNat t26)]?).bind fun x7=>
 cond (aD 20000 (zao (t3+(len x7.2.2.2.1)))) (some (.inr ((false,()),((c64_0,(c64_1,())),()))))<|(node (n+1) (x7.1,(x7.2.1,(x7.2.2.1,(x7.2.2.2.1,x7.2.2.2.2))))).bind fun y8=>
 cond (!y8.1) (some (.inr ((false,()),((c64_0,(c64_1,())),()))))<|(SP (n+6) (c64_0,c64_1) x7.2.2.2.1).bind fun y9=>
 cond (!y9.1) (some (.inr ((false,()),((c64_0,(c64_1,())),()))))<|yk n (zao (t3+(len x7.2.2.2.1))) t24 t25 (zao (t26+1)) c64_0 c64_1) none)<|some (.inl ((),((c64_0,(c64_1,())),())))
theorem Mt:LZ ⟨17,5,none,⟨[EQ 1 64,(3,ac),(24,.one (.aB bT)),(25,ac),(26,ac)],[(64,ol)],65,65,1001⟩,[(.exit 0,⟨[],[(64,ol)],65,65,1001⟩),(.ret,⟨[(2,.one (.bool))],[(64,ol)],65,65,1001⟩)],7,fun n x=>let y:=x.1.2;yk n y.1 y.2.1 y.2.2.1 y.2.2.2.1 x.2.1.1 x.2.1.2.1,[],[64]⟩:=fG ((ab.nil.fn Pv).fn MF)
noncomputable def right (n:Nat) (g:ip):Option bv:=
 cond (aD 20000 (len g.1)) (some (false,()))<|cond (aD 20000 (len g.2)) (some (false,()))<|(SP (n+5) (g.1,g.2) g.2).bind fun y0=>
 cond (!y0.1) (some (false,()))<|(yk n 0 g.1 (len g.1) 0 g.1 g.2).bind fun y10=>
 match y10 with
 | .inl _=>
 some (true,())
 | .inr y12=>
 some (y12.1.1,())
theorem K6:FZ ⟨17,[(true,(.cons (.bH bT) (.bH am)))],[(false,.bool)],7,fun n x=>right n x.1⟩:=dv ((ab.nil.fn MF).lp Mt)
noncomputable def FN:Nat->Int->Int->bL->be->Option ((Unit×dg)×gt)
 |0,_,_,_,_=>none
 |n+1,t3,t4,c64_0,c64_1=>
 cond (aD t4 (len c64_0)) (cond (aD t4 100) (cond (ak 0 t4) ((c64_0[(Int.toNat t4)]?).bind fun x6=>
 cond (ak 0 t4) ((c64_0[(Int.toNat t4)]?).bind fun x7=>
 cond (ak 0 t4) ((c64_0[(Int.toNat t4)]?).bind fun x8=>
 FN n (zao ((zao ((zao (t3+(len x6.2.2.2.1)))+(zao (Int.tdiv (len x7.2.2.1) 20))))+(zao (Int.tdiv (len x8.2.1) 20)))) (zao (t4+1)) c64_0 c64_1) none) none) none)<|some (((),(t3,())),((c64_0,(c64_1,())),())))<|some (((),(t3,())),((c64_0,(c64_1,())),()))
theorem OV:LZ ⟨8,3,none,⟨[EQ 1 64,(3,ac),(4,ac)],[(64,ol)],65,65,1001⟩,[(.exit 0,⟨[EQ 1 64,(3,ac)],[(64,ol)],65,65,1001⟩)],0,fun n x=>FN n x.1.2.1 x.1.2.2.1 x.2.1.1 x.2.1.2.1,[],[64]⟩:=fG ab.nil
noncomputable def T7 (n:Nat) (g:ip):Option bv:=
 (FN (n+1) 0 0 g.1 g.2).bind fun y9=>
 cond (aD 60 (len g.1)) (some (true,()))<|cond (aD 20 (len g.2)) (some (true,()))<|some ((aD 400 y9.1.2.1),())
theorem Sr:FZ ⟨8,[(true,(.cons (.bH bT) (.bH am)))],[(false,.bool)],1,fun n x=>T7 n x.1⟩:=dv (ab.nil.lp OV)
end Go.Proofs.YteknbnkjelmfaaaGreatDoor
