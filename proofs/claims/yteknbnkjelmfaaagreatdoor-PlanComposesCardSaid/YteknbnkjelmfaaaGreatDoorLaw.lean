/- Plain functions for the program's. -/
import Derived.Test.YteknbnkjelmfaaaGreatDoorFa
set_option linter.unusedSimpArgs false
set_option linter.unusedVariables false
set_option maxRecDepth 200000
namespace Go.Proofs.YteknbnkjelmfaaaGreatDoor
open Go Go.Iv Go.Gv
noncomputable def qQ:Nat->ce->Int->Option (dg×Unit)
 |0,_,_=>none
 |n+1,t0,t3=>
 (cond (aD t3 (len t0)) (cond (ak 0 t3) ((t0[(Int.toNat t3)]?).bind fun x9=>
 cond (Nat.ble (UInt8.toNat (48:UInt8)) (UInt8.toNat x9)) (cond (ak 0 t3) ((t0[(Int.toNat t3)]?).bind fun x10=>
 some (Nat.ble (UInt8.toNat x10) (UInt8.toNat (57:UInt8)))) none)<|some false) none)<|some false).bind fun b11=>
 cond b11 (qQ n t0 (zao (t3+1)))<|some ((t3,()),())
theorem Hq:LZ ⟨141,2,none,⟨[(0,.one (.str)),(3,ac)],[],64,64,1000⟩,[(.exit 0,⟨[(3,ac)],[],64,64,1000⟩)],0,fun n x=>qQ n x.1.1 x.1.2.1,[],[]⟩:=fG ab.nil
noncomputable def count (n:Nat) (s:List UInt8):Option dg:=
 (qQ (n+1) s 0).bind fun y12=>
 some (y12.1.1,())
theorem BF:FZ ⟨141,[(false,.str)],[(false,am)],1,fun n x=>count n x.1⟩:=dv (ab.nil.lp Hq)
noncomputable def fK (_n:Nat) (s:List UInt8) (x:List UInt8):Option bv:=
 cond (ak (len x) (len s)) (cond (ak (len x) (len s)) (some (((List.take ((Int.toNat (len x)) - 0) (List.drop 0 s))==x),())) none)<|some (false,())
theorem jz:FZ ⟨132,[(false,.str),(false,.str)],[(false,.bool)],0,fun n x=>fK n x.1 x.2.1⟩:=dv ab.nil
noncomputable def hasPrefix (n:Nat) (s:List UInt8) (x:List UInt8):Option bv:=
 (fK n s x).bind fun y0=>
 some (y0.1,())
theorem kc:FZ ⟨111,[(false,.str),(false,.str)],[(false,.bool)],1,fun n x=>hasPrefix n x.1 x.2.1⟩:=dv (ab.nil.fn jz)
noncomputable def trimPrefix (n:Nat) (s:List UInt8) (x:List UInt8):Option jp:=
 (fK n s x).bind fun y0=>
 cond y0.1 (cond (ak (len x) (len s)) (some ((List.take ((List.length s) - (Int.toNat (len x))) (List.drop (Int.toNat (len x)) s)),())) none)<|some (s,())
theorem wu:FZ ⟨164,[(false,.str),(false,.str)],[(false,.str)],1,fun n x=>trimPrefix n x.1 x.2.1⟩:=dv (ab.nil.fn jz)
noncomputable def jL (n:Nat) (s:List UInt8) (x:List UInt8):Option (ce×bv):=
 (fK n s x).bind fun y0=>
 cond (!y0.1) (some (s,false,()))<|cond (ak (len x) (len s)) (some ((List.take ((List.length s) - (Int.toNat (len x))) (List.drop (Int.toNat (len x)) s)),true,())) none
theorem zM:FZ ⟨136,[(false,.str),(false,.str)],[(false,.str),(false,.bool)],2,fun n x=>jL n x.1 x.2.1⟩:=dv (ab.nil.fn jz)
noncomputable def signed (n:Nat) (s:List UInt8):Option (ce×bv):=
 (hasPrefix (n+1) s ([45]:List UInt8)).bind fun y0=>
 cond y0.1 (cond (ak 1 (len s)) (some ((List.take ((List.length s) - 1) (List.drop 1 s)),true,())) none)<|(trimPrefix n s ([43]:List UInt8)).bind fun y1=>
 some (y1.1,false,())
theorem mB:FZ ⟨137,[(false,.str)],[(false,.str),(false,.bool)],3,fun n x=>signed n x.1⟩:=dv ((ab.nil.fn kc).fn wu)
noncomputable def tS:Nat->ce->UInt8->Option (jp×Unit)
 |0,_,_=>none
 |n+1,t0,t1=>
 (cond (aD 0 (len t0)) ((t0[0]?).bind fun x7=>
 some (x7==t1))<|some false).bind fun b8=>
 cond b8 (cond (ak 1 (len t0)) (tS n (List.take ((List.length t0) - 1) (List.drop 1 t0)) t1) none)<|some ((t0,()),())
theorem HP:LZ ⟨175,1,none,⟨[(0,.one (.str)),(1,.one (.byte))],[],64,64,1000⟩,[(.exit 0,⟨[(0,.one (.str))],[],64,64,1000⟩)],0,fun n x=>tS n x.1.1 x.1.2.1,[],[]⟩:=fG ab.nil
noncomputable def fp (n:Nat) (s:List UInt8) (c:UInt8):Option jp:=
 (tS (n+1) s c).bind fun y9=>
 some (y9.1.1,())
theorem kY:FZ ⟨175,[(false,.str),(false,.byte)],[(false,.str)],1,fun n x=>fp n x.1 x.2.1⟩:=dv (ab.nil.lp HP)
noncomputable def vy:Nat->ce->UInt8->Option (jp×Unit)
 |0,_,_=>none
 |n+1,t0,t1=>
 (cond (aD 0 (len t0)) (cond (ak 0 (zao ((len t0) - 1))) ((t0[(Int.toNat (zao ((len t0) - 1)))]?).bind fun x7=>
 some (x7==t1)) none)<|some false).bind fun b8=>
 cond b8 (cond ((ak 0 (zao ((len t0) - 1))) &&(ak (zao ((len t0) - 1)) (len t0))) (vy n (List.take ((Int.toNat (zao ((len t0) - 1))) - 0) (List.drop 0 t0)) t1) none)<|some ((t0,()),())
theorem JX:LZ ⟨179,1,none,⟨[(0,.one (.str)),(1,.one (.byte))],[],64,64,1000⟩,[(.exit 0,⟨[(0,.one (.str))],[],64,64,1000⟩)],0,fun n x=>vy n x.1.1 x.1.2.1,[],[]⟩:=fG ab.nil
noncomputable def dJ (n:Nat) (s:List UInt8) (c:UInt8):Option jp:=
 (vy (n+1) s c).bind fun y9=>
 some (y9.1.1,())
theorem qH:FZ ⟨179,[(false,.str),(false,.byte)],[(false,.str)],1,fun n x=>dJ n x.1 x.2.1⟩:=dv (ab.nil.lp JX)
noncomputable def whole (n:Nat) (below:Bool) (d:List UInt8) (exp:Int):Option (kw×Unit):=
 (cond (d==([]:List UInt8)) (some true)<|some false).bind fun b1=>
 cond b1 ((cond (d==([]:List UInt8)) (some true)<|some false).bind fun b3=>
 cond b3 (cond (d==([]:List UInt8)) (some ((below,(([48]:List UInt8),(0,0))),()))<|some ((below,(d,((zao ((zao (exp+(len d))) - (len d))),0))),()))<|(dJ n d (48:UInt8)).bind fun y5=>
 cond (y5.1==([]:List UInt8)) (some ((below,(([48]:List UInt8),(0,0))),()))<|some ((below,(y5.1,((zao ((zao (exp+(len d))) - (len y5.1))),0))),()))<|(fp n d (48:UInt8)).bind fun y7=>
 (cond (y7.1==([]:List UInt8)) (some true)<|some false).bind fun b9=>
 cond b9 (cond (y7.1==([]:List UInt8)) (some ((below,(([48]:List UInt8),(0,0))),()))<|some ((below,(y7.1,((zao ((zao (exp+(len y7.1))) - (len y7.1))),0))),()))<|(dJ n y7.1 (48:UInt8)).bind fun y11=>
 cond (y11.1==([]:List UInt8)) (some ((below,(([48]:List UInt8),(0,0))),()))<|some ((below,(y11.1,((zao ((zao (exp+(len y7.1))) - (len y11.1))),0))),())
theorem Ca:FZ ⟨139,[(false,.bool),(false,.str),(false,am)],[(true,(.cons .bool (.cons .str (.cons am am))))],3,fun n x=>whole n x.1 x.2.1 x.2.2.1⟩:=dv ((ab.nil.fn qH).fn kY)
noncomputable def gL:Nat->be->Int->Int->be->Int->Option (d6×Unit)
 |0,_,_,_,_,_=>none
 |n+1,t0,t1,t2,t7,t8=>
 (cond (aD t8 (len t0)) (some true)<|some (aD 0 t2)).bind fun b10=>
 cond b10 (cond (aD t8 (len t0)) (cond (ak 0 t8) ((t0[(Int.toNat t8)]?).bind fun x11=>
 cond (room (((List.length t7)+(List.length ((Int.tmod (zao (t2+(zao (x11*t1)))) 10)::([]:List Int))))*9)) (gL n t0 t1 (zao (Int.tdiv (zao (t2+(zao (x11*t1)))) 10)) (t7++((Int.tmod (zao (t2+(zao (x11*t1)))) 10)::([]:List Int))) (zao (t8+1))) none) none)<|cond (room (((List.length t7)+(List.length ((Int.tmod (zao (t2+(zao (0*t1)))) 10)::([]:List Int))))*9)) (gL n t0 t1 (zao (Int.tdiv (zao (t2+(zao (0*t1)))) 10)) (t7++((Int.tmod (zao (t2+(zao (0*t1)))) 10)::([]:List Int))) (zao (t8+1))) none)<|some ((t7,()),())
theorem JO:LZ ⟨158,3,none,⟨[(0,.one (.aB am)),(1,ac),(2,ac),FS 7 64 .ex,(8,ac)],[],64,65,1000⟩,[(.exit 0,⟨[FS 7 64 .ex],[],64,65,1000⟩)],1,fun n x=>let y:=x.1.2;gL n x.1.1 y.1 y.2.1 y.2.2.1 y.2.2.2.1,[],[]⟩:=fG ab.nil
noncomputable def times (n:Nat) (l:List Int) (k:Int) (more:Int):Option d6:=
 (gL n l k more ([]:List Int) 0).bind fun y12=>
 some (y12.1.1,())
theorem M5:FZ ⟨158,[(false,(.bH am)),(false,am),(false,am)],[(false,(.bH am))],1,fun n x=>times n x.1 x.2.1 x.2.2.1⟩:=dv (ab.nil.lp JO)
noncomputable def rE:Nat->ce->be->Int->Option ((d6×Unit)⊕(d7×Unit))
 |0,_,_,_=>none
 |n+1,t0,t3,t4=>
 cond (ak 0 t4) (cond (ak 0 t4) ((t0[(Int.toNat t4)]?).bind fun x9=>
 (cond (aD (zao ((zao (ub x9)) - 48)) 0) (some true)<|some (ak 10 (zao ((zao (ub x9)) - 48)))).bind fun b11=>
 cond b11 (some (.inr (((),()),())))<|cond (room (((List.length t3)+(List.length ((zao ((zao (ub x9)) - 48))::([]:List Int))))*9)) (rE n t0 (t3++((zao ((zao (ub x9)) - 48))::([]:List Int))) (zao (t4 - 1))) none) none)<|some (.inl ((t3,()),()))
theorem HE:LZ ⟨159,5,none,⟨[(0,.one (.str)),FS 3 64 .ex,(4,ac)],[],64,65,1000⟩,[(.exit 0,⟨[FS 3 64 .ex],[],64,65,1000⟩),(.ret,⟨[(2,.one (m7))],[],64,64,1000⟩)],0,fun n x=>rE n x.1.1 x.1.2.1 x.1.2.2.1,[],[]⟩:=fG ab.nil
noncomputable def of (n:Nat) (s:List UInt8):Option d6:=
 cond (aD 5000 (len s)) (some (([]:List Int),()))<|(rE (n+1) s ([]:List Int) (zao ((len s) - 1))).bind fun y12=>
 match y12 with
 | .inl y13=>
 some (y13.1.1,())
 | .inr _=>
 some (([]:List Int),())
theorem rU:FZ ⟨159,[(false,.str)],[(false,(.bH am))],1,fun n x=>of n x.1⟩:=dv (ab.nil.lp HE)
noncomputable def qw:Nat->be->Int->ce->Option (d7×((Unit×jp)×Unit))
 |0,_,_,_=>none
 |n+1,t0,t4,c64_1=>
 cond (ak 0 t4) (cond (ak 0 t4) ((t0[(Int.toNat t4)]?).bind fun x3=>
 cond (room (((List.length c64_1)+(List.length ((UInt8.ofNat (Int.toNat (IntKind.wrap Go.IntKind.u8 (zao (48+x3)))))::([]:List UInt8))))*2)) (qw n t0 (zao (t4 - 1)) (c64_1++((UInt8.ofNat (Int.toNat (IntKind.wrap Go.IntKind.u8 (zao (48+x3)))))::([]:List UInt8)))) none) none)<|some (((),()),(((),(c64_1,())),()))
theorem JW:LZ ⟨160,3,none,⟨[(0,.one (.aB am)),EQ 3 64,(4,ac)],[(64,.cells 169 [.fix (TV.ptr 64 0),.all 67 5 .byte .ex] true)],67,68,1005⟩,[(.exit 0,⟨[EQ 3 64],[(64,.cells 169 [.fix (TV.ptr 64 0),.all 67 5 .byte .ex] true)],67,68,1005⟩)],2,fun n x=>qw n x.1.1 x.1.2.2.1 x.2.1.2.1,[65],[]⟩:=fG ab.nil
noncomputable def text (n:Nat) (l:List Int):Option jp:=
 cond (ak 0 (zao ((len l) - 1))) (cond (ak 0 (zao ((len l) - 1))) ((l[(Int.toNat (zao ((len l) - 1)))]?).bind fun x0=>
 (qw n l (zao ((zao ((len l) - 1)) - 1)) ((UInt8.ofNat (Int.toNat (IntKind.wrap Go.IntKind.u8 (zao (48+x0)))))::([]:List UInt8))).bind fun y4=>
 cond (List.isEmpty y4.2.1.2.1) (cond ((len y4.2.1.2.1)==0) (some (([48]:List UInt8),())) none)<|cond ((ak (len y4.2.1.2.1) (len y4.2.1.2.1)) &&(ak (len y4.2.1.2.1) 1099511627776)) ((cond ((List.take (Int.toNat (len y4.2.1.2.1)) y4.2.1.2.1)==([]:List UInt8)) (some true)<|some false).bind fun b7=>
 cond b7 (cond (!((List.take (Int.toNat (len y4.2.1.2.1)) y4.2.1.2.1)==([]:List UInt8))) (some ((List.take (Int.toNat (len y4.2.1.2.1)) y4.2.1.2.1),()))<|some (([48]:List UInt8),()))<|(fp n (List.take (Int.toNat (len y4.2.1.2.1)) y4.2.1.2.1) (48:UInt8)).bind fun y9=>
 cond (!(y9.1==([]:List UInt8))) (some (y9.1,()))<|some (([48]:List UInt8),())) none) none)<|some (([48]:List UInt8),())
theorem PA:FZ ⟨160,[(false,(.bH am))],[(false,.str)],3,fun n x=>text n x.1⟩:=dv ((ab.nil.lp JW).fn kY)
noncomputable def jA:Nat->ce->Int->be->ce->Int->Int->Option (((ce×(Int×d6))×Unit)⊕((ce×bv)×Unit))
 |0,_,_,_,_,_,_=>none
 |n+1,t0,t1,t6,t30,t31,t32=>
 cond (aD t32 t31) (cond (ak 0 t32) ((t30[(Int.toNat t32)]?).bind fun x17=>
 (hex (n+1) (zao (ub x17))).bind fun y18=>
 (cond (aD y18.1 0) (some true)<|some (ak t1 y18.1)).bind fun b20=>
 cond b20 (some (.inr ((([]:List UInt8),(false,())),())))<|cond (t1 !=10) ((times (n+1) t6 t1 y18.1).bind fun y21=>
 jA n t0 t1 y21.1 t30 t31 (zao (t32+1)))<|jA n t0 t1 t6 t30 t31 (zao (t32+1))) none)<|some (.inl ((t0,(t1,(t6,()))),()))
theorem II:LZ ⟨138,5,none,⟨[(0,.one (.str)),(1,ac),(6,.one (.aB am)),(30,.one (.aB .byte)),(31,ac),(32,ac)],[],64,64,1000⟩,[(.exit 0,⟨[(0,.one (.str)),(1,ac),(6,.one (.aB am))],[],64,64,1000⟩),(.ret,⟨[(4,.one (.str)),(5,.one (.bool))],[],64,64,1000⟩)],2,fun n x=>let y:=x.1.2.2;jA n x.1.1 x.1.2.1 y.1 y.2.1 y.2.2.1 y.2.2.2.1,[],[]⟩:=fG ((ab.nil.fn MG).fn M5)
noncomputable def plain (n:Nat) (s:List UInt8) (base:Int):Option (ce×bv):=
 (cond (s==([]:List UInt8)) (some true)<|cond (aD 5000 (len s)) (some true)<|cond (base !=8) (cond (base !=10) (some (base !=16))<|some false)<|some false).bind fun b1=>
 cond b1 (some (([]:List UInt8),false,()))<|(jA (n+2) s base ([]:List Int) s (len s) 0).bind fun y22=>
 match y22 with
 | .inl y23=>
 cond (y23.1.2.1==10) ((of (n+2) y23.1.1).bind fun y25=>
 (text n y25.1).bind fun y26=>
 some (y26.1,true,()))<|(text n y23.1.2.2.1).bind fun y27=>
 some (y27.1,true,())
 | .inr y24=>
 some (y24.1.1,y24.1.2.1,())
theorem KU:FZ ⟨138,[(false,.str),(false,am)],[(false,.str),(false,.bool)],4,fun n x=>plain n x.1 x.2.1⟩:=dv (((ab.nil.lp II).fn rU).fn PA)
noncomputable def int (n:Nat) (s:List UInt8):Option (kw×bv):=
 (jL (n+2) s ([48,111]:List UInt8)).bind fun y0=>
 cond y0.2.1 ((plain n y0.1 8).bind fun y1=>
 cond (!y1.2.1) (some ((false,(([]:List UInt8),(0,0))),false,()))<|(whole (n+1) false y1.1 0).bind fun y2=>
 cond y2.1.1 (some (((!(y2.1.2.1==([48]:List UInt8))),(y2.1.2.1,(y2.1.2.2.1,y2.1.2.2.2))),true,()))<|some ((false,(y2.1.2.1,(y2.1.2.2.1,y2.1.2.2.2))),true,()))<|(jL (n+2) s ([48,120]:List UInt8)).bind fun y3=>
 cond y3.2.1 ((plain n y3.1 16).bind fun y4=>
 cond (!y4.2.1) (some ((false,(([]:List UInt8),(0,0))),false,()))<|(whole (n+1) false y4.1 0).bind fun y5=>
 cond y5.1.1 (some (((!(y5.1.2.1==([48]:List UInt8))),(y5.1.2.1,(y5.1.2.2.1,y5.1.2.2.2))),true,()))<|some ((false,(y5.1.2.1,(y5.1.2.2.1,y5.1.2.2.2))),true,()))<|(signed (n+1) s).bind fun y6=>
 (plain n y6.1 10).bind fun y7=>
 cond (!y7.2.1) (some ((false,(([]:List UInt8),(0,0))),false,()))<|(whole (n+1) y6.2.1 y7.1 0).bind fun y8=>
 cond y8.1.1 (some (((!(y8.1.2.1==([48]:List UInt8))),(y8.1.2.1,(y8.1.2.2.1,y8.1.2.2.2))),true,()))<|some ((false,(y8.1.2.1,(y8.1.2.2.1,y8.1.2.2.2))),true,())
theorem RI:FZ ⟨116,[(false,.str)],[(true,(.cons .bool (.cons .str (.cons am am)))),(false,.bool)],5,fun n x=>int n x.1⟩:=dv ((((ab.nil.fn zM).fn KU).fn Ca).fn mB)
noncomputable def iW:Nat->ce->Int->ce->Int->Int->Option ((ce×dg)×Unit)
 |0,_,_,_,_,_=>none
 |n+1,t5,t6,t47,t48,t49=>
 cond (aD t49 t48) (cond (ak 0 t49) ((t47[(Int.toNat t49)]?).bind fun x14=>
 cond (Nat.blt (UInt8.toNat (9:UInt8)) (UInt8.toNat (x14 - (48:UInt8)))) (none)<|iW n t5 (zao ((zao (t6*10))+(zao (ub (x14 - (48:UInt8)))))) t47 t48 (zao (t49+1))) none)<|some ((t5,(t6,())),())
theorem Dt:LZ ⟨182,10,none,⟨[(5,.one (.str)),(6,ac),(47,.one (.aB .byte)),(48,ac),(49,ac)],[],64,64,1000⟩,[(.exit 0,⟨[(5,.one (.str)),(6,ac)],[],64,64,1000⟩)],0,fun n x=>let y:=x.1.2;iW n x.1.1 y.1 y.2.1 y.2.2.1 y.2.2.2.1,[],[]⟩:=fG ab.nil
noncomputable def exponent (n:Nat) (s:List UInt8):Option (Int×bv):=
 cond (s==([]:List UInt8)) (some (0,true,()))<|((s[0]?).bind fun x1=>
 cond (x1 !=(101:UInt8)) ((s[0]?).bind fun x2=>
 some (x2 !=(69:UInt8)))<|some false).bind fun b3=>
 cond b3 (some (0,false,()))<|cond (ak 1 (len s)) ((signed n (List.take ((List.length s) - 1) (List.drop 1 s))).bind fun y4=>
 cond (y4.1==([]:List UInt8)) (some (0,false,()))<|cond (aD 9 (len y4.1)) (some (0,false,()))<|(count (n+2) y4.1).bind fun y5=>
 cond (y5.1 !=(len y4.1)) (some (0,false,()))<|(cond (aD 0 (len y4.1)) (some (aD (len y4.1) 19))<|some false).bind fun b7=>
 cond b7 (((y4.1[0]?).bind fun x9=>
 cond (x9==(45:UInt8)) (some true)<|(y4.1[0]?).bind fun x10=>
 some (x10==(43:UInt8))).bind fun b11=>
 cond b11 (cond (ak 1 (len y4.1)) (cond (aD (len (List.take ((List.length y4.1) - 1) (List.drop 1 y4.1))) 1) (none)<|(iW (n+2) y4.1 0 (List.take ((List.length y4.1) - 1) (List.drop 1 y4.1)) (len (List.take ((List.length y4.1) - 1) (List.drop 1 y4.1))) 0).bind fun y15=>
 (y15.1.1[0]?).bind fun x16=>
 cond (x16==(45:UInt8)) (cond y4.2.1 (some ((zao (0 - (zao (0 - y15.1.2.1)))),true,()))<|some ((zao (0 - y15.1.2.1)),true,()))<|cond y4.2.1 (some ((zao (0 - y15.1.2.1)),true,()))<|some (y15.1.2.1,true,())) none)<|(iW (n+2) y4.1 0 y4.1 (len y4.1) 0).bind fun y17=>
 (y17.1.1[0]?).bind fun x18=>
 cond (x18==(45:UInt8)) (cond y4.2.1 (some ((zao (0 - (zao (0 - y17.1.2.1)))),true,()))<|some ((zao (0 - y17.1.2.1)),true,()))<|cond y4.2.1 (some ((zao (0 - y17.1.2.1)),true,()))<|some (y17.1.2.1,true,())) none) none
theorem CA:FZ ⟨142,[(false,.str)],[(false,am),(false,.bool)],4,fun n x=>exponent n x.1⟩:=dv (((ab.nil.fn mB).fn BF).lp Dt)
noncomputable def named (n:Nat) (s:List UInt8):Option (kw×bv):=
 cond (s==([46,110,97,110]:List UInt8)) (some ((false,(([]:List UInt8),(0,2))),true,()))<|cond (s==([46,78,97,78]:List UInt8)) (some ((false,(([]:List UInt8),(0,2))),true,()))<|cond (s==([46,78,65,78]:List UInt8)) (some ((false,(([]:List UInt8),(0,2))),true,()))<|(signed n s).bind fun y0=>
 cond (y0.1==([46,105,110,102]:List UInt8)) (some ((y0.2.1,(([]:List UInt8),(0,1))),true,()))<|cond (y0.1==([46,73,110,102]:List UInt8)) (some ((y0.2.1,(([]:List UInt8),(0,1))),true,()))<|cond (y0.1==([46,73,78,70]:List UInt8)) (some ((y0.2.1,(([]:List UInt8),(0,1))),true,()))<|some ((false,(([]:List UInt8),(0,0))),false,())
theorem Kf:FZ ⟨140,[(false,.str)],[(true,(.cons .bool (.cons .str (.cons am am)))),(false,.bool)],4,fun n x=>named n x.1⟩:=dv (ab.nil.fn mB)
noncomputable def float (n:Nat) (s:List UInt8):Option (kw×bv):=
 (named n s).bind fun y0=>
 cond y0.2.1 (some ((y0.1.1,(y0.1.2.1,(y0.1.2.2.1,y0.1.2.2.2))),true,()))<|(signed (n+1) s).bind fun y1=>
 (count (n+3) y1.1).bind fun y2=>
 cond ((ak 0 y2.1) &&(ak y2.1 (len y1.1))) (cond ((ak 0 y2.1) &&(ak y2.1 (len y1.1))) ((hasPrefix (n+3) (List.take ((List.length y1.1) - (Int.toNat y2.1)) (List.drop (Int.toNat y2.1) y1.1)) ([46]:List UInt8)).bind fun y3=>
 cond y3.1 (cond (ak 1 (len (List.take ((List.length y1.1) - (Int.toNat y2.1)) (List.drop (Int.toNat y2.1) y1.1)))) ((count (n+3) (List.take ((List.length (List.take ((List.length y1.1) - (Int.toNat y2.1)) (List.drop (Int.toNat y2.1) y1.1))) - 1) (List.drop 1 (List.take ((List.length y1.1) - (Int.toNat y2.1)) (List.drop (Int.toNat y2.1) y1.1))))).bind fun y4=>
 cond ((ak 0 (zao (1+y4.1))) &&(ak (zao (1+y4.1)) (len (List.take ((List.length y1.1) - (Int.toNat y2.1)) (List.drop (Int.toNat y2.1) y1.1))))) (cond (ak 1 (((Int.toNat (zao (1+y4.1))):Nat):Int)) (cond ((ak 0 (zao (1+y4.1))) &&(ak (zao (1+y4.1)) (len (List.take ((List.length y1.1) - (Int.toNat y2.1)) (List.drop (Int.toNat y2.1) y1.1))))) ((exponent n (List.take ((List.length (List.take ((List.length y1.1) - (Int.toNat y2.1)) (List.drop (Int.toNat y2.1) y1.1))) - (Int.toNat (zao (1+y4.1)))) (List.drop (Int.toNat (zao (1+y4.1))) (List.take ((List.length y1.1) - (Int.toNat y2.1)) (List.drop (Int.toNat y2.1) y1.1))))).bind fun y5=>
 (cond (!y5.2.1) (some true)<|cond ((List.take ((Int.toNat y2.1) - 0) (List.drop 0 y1.1))==([]:List UInt8)) (cond ((List.take ((Int.toNat (zao (1+y4.1))) - 1) (List.drop 1 (List.take ((List.length y1.1) - (Int.toNat y2.1)) (List.drop (Int.toNat y2.1) y1.1))))==([]:List UInt8)) (some true)<|some (aD 5000 (zao ((len (List.take ((Int.toNat y2.1) - 0) (List.drop 0 y1.1)))+(len (List.take ((Int.toNat (zao (1+y4.1))) - 1) (List.drop 1 (List.take ((List.length y1.1) - (Int.toNat y2.1)) (List.drop (Int.toNat y2.1) y1.1)))))))))<|some (aD 5000 (zao ((len (List.take ((Int.toNat y2.1) - 0) (List.drop 0 y1.1)))+(len (List.take ((Int.toNat (zao (1+y4.1))) - 1) (List.drop 1 (List.take ((List.length y1.1) - (Int.toNat y2.1)) (List.drop (Int.toNat y2.1) y1.1))))))))).bind fun b7=>
 cond b7 (some ((false,(([]:List UInt8),(0,0))),false,()))<|cond (room ((List.length (List.take ((Int.toNat y2.1) - 0) (List.drop 0 y1.1)))+(List.length (List.take ((Int.toNat (zao (1+y4.1))) - 1) (List.drop 1 (List.take ((List.length y1.1) - (Int.toNat y2.1)) (List.drop (Int.toNat y2.1) y1.1))))))) ((whole (n+1) y1.2.1 ((List.take ((Int.toNat y2.1) - 0) (List.drop 0 y1.1))++(List.take ((Int.toNat (zao (1+y4.1))) - 1) (List.drop 1 (List.take ((List.length y1.1) - (Int.toNat y2.1)) (List.drop (Int.toNat y2.1) y1.1))))) (zao (y5.1 - (len (List.take ((Int.toNat (zao (1+y4.1))) - 1) (List.drop 1 (List.take ((List.length y1.1) - (Int.toNat y2.1)) (List.drop (Int.toNat y2.1) y1.1)))))))).bind fun y8=>
 some ((y8.1.1,(y8.1.2.1,(y8.1.2.2.1,y8.1.2.2.2))),true,())) none) none) none) none) none)<|(exponent n (List.take ((List.length y1.1) - (Int.toNat y2.1)) (List.drop (Int.toNat y2.1) y1.1))).bind fun y9=>
 (cond (!y9.2.1) (some true)<|cond ((List.take ((Int.toNat y2.1) - 0) (List.drop 0 y1.1))==([]:List UInt8)) (some true)<|some (aD 5000 (zao ((len (List.take ((Int.toNat y2.1) - 0) (List.drop 0 y1.1)))+0)))).bind fun b11=>
 cond b11 (some ((false,(([]:List UInt8),(0,0))),false,()))<|cond (room ((List.length (List.take ((Int.toNat y2.1) - 0) (List.drop 0 y1.1)))+(List.length ([]:List UInt8)))) ((whole (n+1) y1.2.1 ((List.take ((Int.toNat y2.1) - 0) (List.drop 0 y1.1))++([]:List UInt8)) (zao (y9.1 - 0))).bind fun y12=>
 some ((y12.1.1,(y12.1.2.1,(y12.1.2.2.1,y12.1.2.2.2))),true,())) none) none) none
theorem MM:FZ ⟨117,[(false,.str)],[(true,(.cons .bool (.cons .str (.cons am am)))),(false,.bool)],5,fun n x=>float n x.1⟩:=dv ((((((ab.nil.fn Kf).fn mB).fn BF).fn kc).fn CA).fn Ca)
noncomputable def Gu (_n:Nat) (s:List UInt8):Option bv:=
 (cond (s==([]:List UInt8)) (some true)<|cond (s==([126]:List UInt8)) (some true)<|cond (s==([110,117,108,108]:List UInt8)) (some true)<|cond (s==([78,117,108,108]:List UInt8)) (some true)<|some (s==([78,85,76,76]:List UInt8))).bind fun b1=>
 some (b1,())
theorem NO:FZ ⟨118,[(false,.str)],[(false,.bool)],0,fun n x=>Gu n x.1⟩:=dv ab.nil
noncomputable def zB (_n:Nat) (s:List UInt8):Option (Bool×bv):=
 cond (s==([116,114,117,101]:List UInt8)) (some (true,true,()))<|cond (s==([84,114,117,101]:List UInt8)) (some (true,true,()))<|cond (s==([84,82,85,69]:List UInt8)) (some (true,true,()))<|cond (s==([102,97,108,115,101]:List UInt8)) (some (false,true,()))<|cond (s==([70,97,108,115,101]:List UInt8)) (some (false,true,()))<|cond (s==([70,65,76,83,69]:List UInt8)) (some (false,true,()))<|some (false,false,())
theorem IQ:FZ ⟨115,[(false,.str)],[(false,.bool),(false,.bool)],0,fun n x=>zB n x.1⟩:=dv ab.nil
noncomputable def core (n:Nat) (s:List UInt8):Option jp:=
 (zB (n+5) s).bind fun y0=>
 (int n s).bind fun y1=>
 (float n s).bind fun y2=>
 (Gu (n+5) s).bind fun y3=>
 cond y3.1 (some (([110,117,108,108]:List UInt8),()))<|cond y0.2.1 (some (([98,111,111,108]:List UInt8),()))<|cond y1.2.1 (some (([105,110,116]:List UInt8),()))<|cond y2.2.1 (some (([102,108,111,97,116]:List UInt8),()))<|some (([115,116,114]:List UInt8),())
theorem PF:FZ ⟨103,[(false,.str)],[(false,.str)],6,fun n x=>core n x.1⟩:=dv ((((ab.nil.fn IQ).fn RI).fn MM).fn NO)
noncomputable def blank (_n:Nat) (c:Int):Option bv:=
 (cond (c==32) (some true)<|some (c==9)).bind fun b1=>
 some (b1,())
noncomputable def CO:fH:=⟨131,[(false,am)],[(false,.bool)],0,fun n x=>blank n x.1⟩
theorem o6:FZ CO:=dv ab.nil
noncomputable def print (_n:Nat) (c:Int):Option bv:=
 cond (c==9) (some (true,()))<|cond (c==10) (some (true,()))<|cond (c==13) (some (true,()))<|cond (c==133) (some (true,()))<|(cond (ak 32 c) (some (ak c 126))<|some false).bind fun b1=>
 cond b1 (some (true,()))<|(cond (ak 160 c) (some (ak c 55295))<|some false).bind fun b3=>
 cond b3 (some (true,()))<|(cond (ak 57344 c) (some (ak c 65533))<|some false).bind fun b5=>
 cond b5 (some (true,()))<|(cond (ak 65536 c) (some (ak c 1114111))<|some false).bind fun b7=>
 some (b7,())
theorem vk:FZ ⟨112,[(false,am)],[(false,.bool)],1,fun n x=>print n x.1⟩:=dv ab.nil
noncomputable def nV:Nat->Int->ce->Int->Int->Option m0
 |0,_,_,_,_=>none
 |n+1,t1,t8,t9,t10=>
 cond (aD t10 t9) (cond (ak 0 t10) ((t8[(Int.toNat t10)]?).bind fun x2=>
 cond ((zao (ub x2))==t1) (some (.inr ((true,()),())))<|nV n t1 t8 t9 (zao (t10+1))) none)<|some (.inl ((),()))
theorem xy:LZ ⟨152,2,none,⟨[(1,ac),(8,.one (.aB .byte)),(9,ac),(10,ac)],[],64,64,1000⟩,[(.exit 0,⟨[],[],64,64,1000⟩),(.ret,⟨[(4,.one (.bool))],[],64,64,1000⟩)],0,fun n x=>nV n x.1.1 x.1.2.1 x.1.2.2.1 x.1.2.2.2.1,[],[]⟩:=fG ab.nil
noncomputable def BK (n:Nat) (c:Int):Option bv:=
 (nV (n+1) c ([44,91,93,123,125]:List UInt8) 5 0).bind fun y3=>
 match y3 with
 | .inl _=>
 some (false,())
 | .inr y5=>
 some (y5.1.1,())
noncomputable def C1:fH:=⟨168,[(false,am)],[(false,.bool)],2,fun n x=>BK n x.1⟩
theorem Cc:FZ C1:=dv (ab.nil.lp xy)
noncomputable def GQ (n:Nat) (c:Int):Option bv:=
 (nV (n+1) c ([45,63,58,44,91,93,123,125,35,38,42,33,124,62,39,34,37,64,96]:List UInt8) 19 0).bind fun y0=>
 match y0 with
 | .inl _=>
 some (false,())
 | .inr y2=>
 some (y2.1.1,())
theorem MK:FZ ⟨129,[(false,am)],[(false,.bool)],2,fun n x=>GQ n x.1⟩:=dv (ab.nil.lp xy)
noncomputable def uj:Nat->be->ce->Nat->Option (d6×((ce×Nat)×Unit))
 |0,_,_,_=>none
 |n+1,t3,i64,p64=>
 cond (Nat.blt p64 (List.length i64)) (cond (room (((List.length t3)+(List.length ((zao (((Go.Utf8.decode (ba i64) p64).1:Nat):Int))::([]:List Int))))*9)) (uj n (t3++((zao (((Go.Utf8.decode (ba i64) p64).1:Nat):Int))::([]:List Int))) i64 (p64+(Go.Utf8.decode (ba i64) p64).2)) none)<|some ((t3,()),((i64,p64),()))
theorem Lz:LZ ⟨98,3,none,⟨[FS 3 65 .ex,EQ 7 64],[(64,.iter)],65,66,1001⟩,[(.exit 0,⟨[FS 3 65 .ex],[(64,.iter)],65,66,1001⟩)],0,fun n x=>uj n x.1.1 x.2.1.1 x.2.1.2,[],[]⟩:=fG ab.nil
noncomputable def points (n:Nat) (s:List UInt8):Option d6:=
 (uj (n+1) ([]:List Int) s 0).bind fun y0=>
 some (y0.1.1,())
theorem IJ:FZ ⟨98,[(false,.str)],[(false,(.bH am))],1,fun n x=>points n x.1⟩:=dv (ab.nil.lp Lz)
noncomputable def qq:Nat->be->Int->Int->Option m0
 |0,_,_,_=>none
 |n+1,t5,t6,t7=>
 cond (aD t7 t6) (cond (ak 0 t7) ((t5[(Int.toNat t7)]?).bind fun x4=>
 (print (n+1) x4).bind fun y5=>
 cond (!y5.1) (some (.inr ((false,()),())))<|cond (x4==10) (some (.inr ((false,()),())))<|cond (x4==13) (some (.inr ((false,()),())))<|cond (x4==65279) (some (.inr ((false,()),())))<|qq n t5 t6 (zao (t7+1))) none)<|some (.inl ((),()))
theorem It:LZ ⟨100,2,none,⟨[(5,.one (.aB am)),(6,ac),(7,ac)],[],64,64,1000⟩,[(.exit 0,⟨[],[],64,64,1000⟩),(.ret,⟨[(2,.one (.bool))],[],64,64,1000⟩)],2,fun n x=>qq n x.1.1 x.1.2.1 x.1.2.2.1,[],[]⟩:=fG (ab.nil.fn vk)
noncomputable def single (n:Nat) (l:List Int):Option bv:=
 (qq n l (len l) 0).bind fun y6=>
 match y6 with
 | .inl _=>
 some (true,())
 | .inr y8=>
 some (y8.1.1,())
theorem wQ:FZ ⟨100,[(false,(.bH am))],[(false,.bool)],2,fun n x=>single n x.1⟩:=dv (ab.nil.lp It)
noncomputable def safe (n:Nat) (l:List Int) (i:Int) (flow:Bool):Option bv:=
 cond (aD i (len l)) (cond (ak 0 i) ((l[(Int.toNat i)]?).bind fun x0=>
 (print (n+1) x0).bind fun y1=>
 cond y1.1 ((blank (n+2) x0).bind fun y2=>
 cond (!y2.1) (cond (x0 !=10) (cond (x0 !=13) (cond (x0 !=65279) (cond flow ((BK n x0).bind fun y3=>
 some ((!y3.1),()))<|some (true,()))<|some (false,()))<|some (false,()))<|some (false,()))<|some (false,()))<|some (false,())) none)<|some (false,())
noncomputable def G2:fH:=⟨128,[(false,(.bH am)),(false,am),(false,.bool)],[(false,.bool)],4,fun n x=>safe n x.1 x.2.1 x.2.2.1⟩
theorem GN:FZ G2:=dv (((ab.nil.fn vk).fn o6).fn Cc)
noncomputable def Aa (n:Nat) (l:List Int) (flow:Bool):Option bv:=
 (safe n l 0 flow).bind fun y0=>
 cond (!y0.1) (some (false,()))<|(l[0]?).bind fun x1=>
 cond (x1==45) ((safe n l 1 flow).bind fun y2=>
 some (y2.1,()))<|cond (x1==63) ((safe n l 1 flow).bind fun y3=>
 some (y3.1,()))<|cond (x1==58) ((safe n l 1 flow).bind fun y4=>
 some (y4.1,()))<|(l[0]?).bind fun x5=>
 (GQ (n+2) x5).bind fun y6=>
 some ((!y6.1),())
theorem Jd:FZ ⟨109,[(false,(.bH am)),(false,.bool)],[(false,.bool)],5,fun n x=>Aa n x.1 x.2.1⟩:=dv ((ab.nil.fn GN).fn MK)
noncomputable def jm:Tm:=⟨[],[(64,m8),(65,pi),(66,m9),(68,pi),(69,.loop 130 Go.LoopState.ready (Option.none) (k8 Tryz.prog hint 130) [EQ 2 64,EQ 3 65,EQ 4 66] (aJ Tryz.prog 130 4).1 (aJ Tryz.prog 130 4).2.1 (aJ Tryz.prog 130 4).2.2)],70,70,1006⟩
noncomputable def lE:Tm:=⟨[],[(64,m8),(65,pi),(66,m9),(68,pi),(69,.loop 130 Go.LoopState.done (Option.some Go.Code.ret) (k8 Tryz.prog hint 130) [EQ 2 64,EQ 3 65,EQ 4 66] (aJ Tryz.prog 130 4).1 (aJ Tryz.prog 130 4).2.1 (aJ Tryz.prog 130 4).2.2)],70,70,1006⟩
noncomputable def uA:Tm:=⟨[(0,.one (.fix (TV.mo 69))),EQ 2 68,(6,.one (.aB am)),(7,ac),(8,ac)],[(64,m8),(65,pi),(66,m9),(68,pi),(69,.loop 130 Go.LoopState.ready (Option.none) (k8 Tryz.prog hint 130) [EQ 2 64,EQ 3 65,EQ 4 66] (aJ Tryz.prog 130 4).1 (aJ Tryz.prog 130 4).2.1 (aJ Tryz.prog 130 4).2.2)],70,70,1006⟩
noncomputable def bF:Nat->be->Int->Int->be->Bool->Int->Bool->Option ((Unit×(d6×(bv×(dg×(bv×((Unit×i7)×Unit))))))⊕(Unit×(d6×(bv×(dg×(bv×((Unit×i7)×Unit)))))))
 |0,_,_,_,_,_,_,_=>none
 |n+1,t6,t7,t8,c64_0,c65_0,c66_0,c68_0=>
 cond (aD t8 t7) (cond (ak 0 t8) ((t6[(Int.toNat t8)]?).bind fun x52=>
 cond (x52==58) (cond (ak 0 t8) ((c64_0[(Int.toNat t8)]?).bind fun x53=>
 cond (x53==58) ((safe (n+1) c64_0 (zao (t8+1)) c65_0).bind fun y54=>
 cond y54.1 (bF n t6 t7 (zao (t8+1)) c64_0 c65_0 c66_0 c68_0)<|cond (ak 0 t8) ((c64_0[(Int.toNat t8)]?).bind fun x55=>
 cond (x55==35) (cond (t8==0) (bF n t6 t7 (zao (t8+1)) c64_0 c65_0 c66_0 c68_0)<|cond (ak 0 (zao (t8 - 1))) ((c64_0[(Int.toNat (zao (t8 - 1)))]?).bind fun x56=>
 (blank (n+5) x56).bind fun y57=>
 cond (!y57.1) (bF n t6 t7 (zao (t8+1)) c64_0 c65_0 c66_0 c68_0)<|some (.inr ((),((c64_0,()),((c65_0,()),((t8,()),((c68_0,()),(((),((),((),()))),())))))))) none)<|some (.inr ((),((c64_0,()),((c65_0,()),((t8,()),((c68_0,()),(((),((),((),()))),())))))))) none)<|cond (ak 0 t8) ((c64_0[(Int.toNat t8)]?).bind fun x58=>
 cond (x58==35) (cond (t8==0) (bF n t6 t7 (zao (t8+1)) c64_0 c65_0 c66_0 c68_0)<|cond (ak 0 (zao (t8 - 1))) ((c64_0[(Int.toNat (zao (t8 - 1)))]?).bind fun x59=>
 (blank (n+5) x59).bind fun y60=>
 cond (!y60.1) (bF n t6 t7 (zao (t8+1)) c64_0 c65_0 c66_0 c68_0)<|some (.inr ((),((c64_0,()),((c65_0,()),((t8,()),((c68_0,()),(((),((),((),()))),())))))))) none)<|some (.inr ((),((c64_0,()),((c65_0,()),((t8,()),((c68_0,()),(((),((),((),()))),())))))))) none) none)<|cond (x52==35) (cond (ak 0 t8) ((c64_0[(Int.toNat t8)]?).bind fun x61=>
 cond (x61==58) ((safe (n+1) c64_0 (zao (t8+1)) c65_0).bind fun y62=>
 cond y62.1 (bF n t6 t7 (zao (t8+1)) c64_0 c65_0 c66_0 c68_0)<|cond (ak 0 t8) ((c64_0[(Int.toNat t8)]?).bind fun x63=>
 cond (x63==35) (cond (t8==0) (bF n t6 t7 (zao (t8+1)) c64_0 c65_0 c66_0 c68_0)<|cond (ak 0 (zao (t8 - 1))) ((c64_0[(Int.toNat (zao (t8 - 1)))]?).bind fun x64=>
 (blank (n+5) x64).bind fun y65=>
 cond (!y65.1) (bF n t6 t7 (zao (t8+1)) c64_0 c65_0 c66_0 c68_0)<|some (.inr ((),((c64_0,()),((c65_0,()),((t8,()),((c68_0,()),(((),((),((),()))),())))))))) none)<|some (.inr ((),((c64_0,()),((c65_0,()),((t8,()),((c68_0,()),(((),((),((),()))),())))))))) none)<|cond (ak 0 t8) ((c64_0[(Int.toNat t8)]?).bind fun x66=>
 cond (x66==35) (cond (t8==0) (bF n t6 t7 (zao (t8+1)) c64_0 c65_0 c66_0 c68_0)<|cond (ak 0 (zao (t8 - 1))) ((c64_0[(Int.toNat (zao (t8 - 1)))]?).bind fun x67=>
 (blank (n+5) x67).bind fun y68=>
 cond (!y68.1) (bF n t6 t7 (zao (t8+1)) c64_0 c65_0 c66_0 c68_0)<|some (.inr ((),((c64_0,()),((c65_0,()),((t8,()),((c68_0,()),(((),((),((),()))),())))))))) none)<|some (.inr ((),((c64_0,()),((c65_0,()),((t8,()),((c68_0,()),(((),((),((),()))),())))))))) none) none)<|cond c68_0 ((BK (n+4) x52).bind fun y69=>
 cond y69.1 (cond (ak 0 t8) ((c64_0[(Int.toNat t8)]?).bind fun x70=>
 cond (x70==58) ((safe (n+1) c64_0 (zao (t8+1)) c65_0).bind fun y71=>
 cond y71.1 (bF n t6 t7 (zao (t8+1)) c64_0 c65_0 c66_0 c68_0)<|cond (ak 0 t8) ((c64_0[(Int.toNat t8)]?).bind fun x72=>
 cond (x72==35) (cond (t8==0) (bF n t6 t7 (zao (t8+1)) c64_0 c65_0 c66_0 c68_0)<|cond (ak 0 (zao (t8 - 1))) ((c64_0[(Int.toNat (zao (t8 - 1)))]?).bind fun x73=>
 (blank (n+5) x73).bind fun y74=>
 cond (!y74.1) (bF n t6 t7 (zao (t8+1)) c64_0 c65_0 c66_0 c68_0)<|some (.inr ((),((c64_0,()),((c65_0,()),((t8,()),((c68_0,()),(((),((),((),()))),())))))))) none)<|some (.inr ((),((c64_0,()),((c65_0,()),((t8,()),((c68_0,()),(((),((),((),()))),())))))))) none)<|cond (ak 0 t8) ((c64_0[(Int.toNat t8)]?).bind fun x75=>
 cond (x75==35) (cond (t8==0) (bF n t6 t7 (zao (t8+1)) c64_0 c65_0 c66_0 c68_0)<|cond (ak 0 (zao (t8 - 1))) ((c64_0[(Int.toNat (zao (t8 - 1)))]?).bind fun x76=>
 (blank (n+5) x76).bind fun y77=>
 cond (!y77.1) (bF n t6 t7 (zao (t8+1)) c64_0 c65_0 c66_0 c68_0)<|some (.inr ((),((c64_0,()),((c65_0,()),((t8,()),((c68_0,()),(((),((),((),()))),())))))))) none)<|some (.inr ((),((c64_0,()),((c65_0,()),((t8,()),((c68_0,()),(((),((),((),()))),())))))))) none) none)<|bF n t6 t7 (zao (t8+1)) c64_0 c65_0 c66_0 c68_0)<|bF n t6 t7 (zao (t8+1)) c64_0 c65_0 c66_0 c68_0) none)<|some (.inl ((),((c64_0,()),((c65_0,()),((c66_0,()),((c68_0,()),(((),((),((),()))),())))))))
noncomputable def HS:bV:=⟨169,1,none,uA,[(.exit 0,jm),(.ret,lE)],6,fun n x=>let y:=x.1.2.2;bF n y.1 y.2.1 y.2.2.1 x.2.1.1 x.2.2.1.1 x.2.2.2.1.1 x.2.2.2.2.1.1,[67],[64,65,68]⟩
theorem rB:jm.ok Tryz.prog hint:=by
 intro p hp;simp only [jm,List.mem_cons,List.not_mem_nil,or_false] at hp;rcases hp with rfl |rfl |rfl |rfl |rfl
 .trivial
 .trivial
 .trivial
 .trivial
 .exact oe.of (by kernel_rfl) (by kernel_rfl)
theorem uN:lE.ok Tryz.prog hint:=by
 intro p hp;simp only [lE,List.mem_cons,List.not_mem_nil,or_false] at hp;rcases hp with rfl |rfl |rfl |rfl |rfl
 .trivial
 .trivial
 .trivial
 .trivial
 .exact oe.of (by kernel_rfl) (by kernel_rfl)
theorem rO:uA.ok Tryz.prog hint:=by
 intro p hp;simp only [uA,List.mem_cons,List.not_mem_nil,or_false] at hp;rcases hp with rfl |rfl |rfl |rfl |rfl
 .trivial
 .trivial
 .trivial
 .trivial
 .exact oe.of (by kernel_rfl) (by kernel_rfl)
theorem Jx:∀ n,cA Tryz.prog hint s8 HS n:=
 cA.of (hk:=fun Z=>(dq.mk [C1,CO,G2] []).hk Z) (sh:=s8) (eH.of (by kernel_rfl)) rO ⟨⟨rB,zal _,zal _⟩,⟨uN,zal _,zal _⟩,trivial⟩ (fun m=>ab.eR (((ab.nil.fn GN).fn o6).fn Cc) m)
  (fun _=>by kernel_rfl) (fun m x=>by kernel_rfl)
noncomputable def stop (n:Nat) (l:List Int) (flow:Bool):Option dg:=
 (bF n l (len l) 0 l flow 0 flow).bind fun y78=>
 match y78 with
 | .inl _=>
 some ((len l),())
 | .inr y80=>
 some (y80.2.2.2.1.1,())
theorem Qo:FZ ⟨130,[(false,(.bH am)),(false,.bool)],[(false,am)],7,fun n x=>stop n x.1 x.2.1⟩:=dv (ab.nil.loop Jx rO)
noncomputable def vF:Nat->be->Int->Option (dg×Unit)
 |0,_,_=>none
 |n+1,t0,t5=>
 cond (aD 0 t5) (cond (ak 0 (zao (t5 - 1))) ((t0[(Int.toNat (zao (t5 - 1)))]?).bind fun x5=>
 (blank (n+1) x5).bind fun y6=>
 cond y6.1 (vF n t0 (zao (t5 - 1)))<|some ((t5,()),())) none)<|some ((t5,()),())
theorem JH:LZ ⟨110,2,none,⟨[(0,.one (.aB am)),(5,ac)],[],64,64,1000⟩,[(.exit 0,⟨[(5,ac)],[],64,64,1000⟩)],1,fun n x=>vF n x.1.1 x.1.2.1,[],[]⟩:=fG (ab.nil.fn o6)
noncomputable def Px (n:Nat) (l:List Int) (flow:Bool):Option dg:=
 (stop n l flow).bind fun y0=>
 (vF (n+7) l y0.1).bind fun y7=>
 some (y7.1.1,())
theorem P4:FZ ⟨110,[(false,(.bH am)),(false,.bool)],[(false,am)],8,fun n x=>Px n x.1 x.2.1⟩:=dv ((ab.nil.fn Qo).lp JH)
noncomputable def tD (n:Nat) (s:List UInt8) (l:List Int):Option bv:=
 (Aa (n+3) l true).bind fun y0=>
 cond (!y0.1) (some (false,()))<|(Px n l true).bind fun y1=>
 cond (y1.1 !=(len l)) (some (false,()))<|(single (n+6) l).bind fun y2=>
 cond (!y2.1) (some (false,()))<|(hasPrefix (n+7) s ([45,45,45]:List UInt8)).bind fun y3=>
 cond (!y3.1) ((hasPrefix (n+7) s ([46,46,46]:List UInt8)).bind fun y4=>
 some ((!y4.1),()))<|some (false,())
theorem Eh:FZ ⟨99,[(false,.str),(false,(.bH am))],[(false,.bool)],9,fun n x=>tD n x.1 x.2.1⟩:=dv ((((ab.nil.fn Jd).fn P4).fn wQ).fn kc)
noncomputable def rD:Nat->be->Bool->be->Int->Int->Option (((be×bv)×Unit)⊕(bv×Unit))
 |0,_,_,_,_,_=>none
 |n+1,t0,t1,t7,t8,t9=>
 cond (aD t9 t8) (cond (ak 0 t9) ((t7[(Int.toNat t9)]?).bind fun x4=>
 (print (n+1) x4).bind fun y5=>
 cond (!y5.1) (some (.inr ((false,()),())))<|cond (x4==13) (some (.inr ((false,()),())))<|cond (x4==65279) (some (.inr ((false,()),())))<|rD n t0 t1 t7 t8 (zao (t9+1))) none)<|some (.inl ((t0,(t1,())),()))
theorem IW:LZ ⟨101,2,none,⟨[(0,.one (.aB am)),(1,.one (.bool)),(7,.one (.aB am)),(8,ac),(9,ac)],[],64,64,1000⟩,[(.exit 0,⟨[(0,.one (.aB am)),(1,.one (.bool))],[],64,64,1000⟩),(.ret,⟨[(4,.one (.bool))],[],64,64,1000⟩)],2,fun n x=>let y:=x.1.2;rD n x.1.1 y.1 y.2.1 y.2.2.1 y.2.2.2.1,[],[]⟩:=fG (ab.nil.fn vk)
noncomputable def literal (n:Nat) (l:List Int) (flow:Bool):Option bv:=
 (rD n l flow l (len l) 0).bind fun y6=>
 match y6 with
 | .inl y7=>
 (cond (!y7.1.2.1) (some (aD 0 (len y7.1.1)))<|some false).bind fun b10=>
 some (b10,())
 | .inr y8=>
 some (y8.1.1,())
theorem DU:FZ ⟨101,[(false,(.bH am)),(false,.bool)],[(false,.bool)],2,fun n x=>literal n x.1 x.2.1⟩:=dv (ab.nil.lp IW)
noncomputable def jw:Nat->ce->Int->Int->Option m0
 |0,_,_,_=>none
 |n+1,t0,t5,t6=>
 cond (aD t6 t5) (cond (ak 0 t6) ((t0[(Int.toNat t6)]?).bind fun x8=>
 (blank (n+1) (zao (ub x8))).bind fun y9=>
 cond y9.1 (cond (t6==0) (some (.inr ((false,()),())))<|cond ((zao (t6+1))==(len t0)) (some (.inr ((false,()),())))<|cond (ak 0 (zao (t6+1))) ((t0[(Int.toNat (zao (t6+1)))]?).bind fun x10=>
 (blank (n+1) (zao (ub x10))).bind fun y11=>
 cond y11.1 (some (.inr ((false,()),())))<|jw n t0 t5 (zao (t6+1))) none)<|jw n t0 t5 (zao (t6+1))) none)<|some (.inl ((),()))
theorem HV:LZ ⟨114,2,none,⟨[(0,.one (.str)),(5,ac),(6,ac)],[],64,64,1000⟩,[(.exit 0,⟨[],[],64,64,1000⟩),(.ret,⟨[(2,.one (.bool))],[],64,64,1000⟩)],2,fun n x=>jw n x.1.1 x.1.2.1 x.1.2.2.1,[],[]⟩:=fG (ab.nil.fn o6)
noncomputable def wZ (n:Nat) (s:List UInt8):Option bv:=
 (jw n s (len s) 0).bind fun y12=>
 match y12 with
 | .inl _=>
 some (true,())
 | .inr y14=>
 some (y14.1.1,())
noncomputable def BW:fH:=⟨114,[(false,.str)],[(false,.bool)],2,fun n x=>wZ n x.1⟩
theorem A6:FZ BW:=dv (ab.nil.lp HV)
noncomputable def jq:Tm:=⟨[(0,.one (.fix (TV.mo 68))),EQ 2 65],[(64,pi),(65,qr),(66,qr),(67,m9),(68,.loop 102 Go.LoopState.ready (Option.none) (k8 Tryz.prog hint 102) [EQ 2 64] (aJ Tryz.prog 102 3).1 (aJ Tryz.prog 102 3).2.1 (aJ Tryz.prog 102 3).2.2)],69,69,1005⟩
noncomputable def mf:Tm:=⟨[],[(64,pi),(65,qr),(66,qr),(67,m9),(68,.loop 102 Go.LoopState.done (Option.some Go.Code.ret) (k8 Tryz.prog hint 102) [EQ 2 64] (aJ Tryz.prog 102 3).1 (aJ Tryz.prog 102 3).2.1 (aJ Tryz.prog 102 3).2.2)],69,69,1005⟩
noncomputable def vz:Tm:=⟨[(0,.one (.fix (TV.mo 68))),EQ 1 66,EQ 2 65,EQ 3 67],[(64,pi),(65,qr),(66,qr),(67,m9),(68,.loop 102 Go.LoopState.ready (Option.none) (k8 Tryz.prog hint 102) [EQ 2 64] (aJ Tryz.prog 102 3).1 (aJ Tryz.prog 102 3).2.1 (aJ Tryz.prog 102 3).2.2)],69,69,1005⟩
noncomputable def nW:Nat->Bool->ce->ce->Int->Option ((i7×(bv×(jp×(jp×(dg×(d7×Unit))))))⊕(Unit×(bv×(jp×(jp×(dg×(d7×Unit)))))))
 |0,_,_,_,_=>none
 |n+1,c64_0,c65_0,c66_0,c67_0=>
 (cond ((len c66_0)==0) (some true)<|some (c66_0==c65_0)).bind fun b13=>
 cond b13 (cond ((ak 0 (zao (0+c67_0))) &&(ak (zao (0+c67_0)) (len c65_0))) ((wZ (n+1) (List.take ((Int.toNat (zao (0+c67_0))) - 0) (List.drop 0 c65_0))).bind fun y14=>
 cond (!y14.1) (some (.inr ((),((false,()),((c65_0,()),((c66_0,()),((c67_0,()),(((),()),()))))))))<|cond ((ak 0 (zao (0+(len c66_0)))) &&(ak (zao (0+(len c66_0))) (len c65_0))) (nW n c64_0 (List.take ((List.length c65_0) - (Int.toNat (zao (0+(len c66_0))))) (List.drop (Int.toNat (zao (0+(len c66_0)))) c65_0)) c66_0 c67_0) none) none)<|cond ((len c66_0)==1) ((c66_0[0]?).bind fun x15=>
 cond (aD (oW x15 c65_0) 0) (some (.inl (((),((),())),((c64_0,()),((c65_0,()),((c66_0,()),((c67_0,()),(((),()),()))))))))<|cond ((ak 0 (zao ((oW x15 c65_0)+c67_0))) &&(ak (zao ((oW x15 c65_0)+c67_0)) (len c65_0))) ((wZ (n+1) (List.take ((Int.toNat (zao ((oW x15 c65_0)+c67_0))) - 0) (List.drop 0 c65_0))).bind fun y16=>
 cond (!y16.1) (some (.inr ((),((false,()),((c65_0,()),((c66_0,()),((c67_0,()),(((),()),()))))))))<|cond ((ak 0 (zao ((oW x15 c65_0)+(len c66_0)))) &&(ak (zao ((oW x15 c65_0)+(len c66_0))) (len c65_0))) (nW n c64_0 (List.take ((List.length c65_0) - (Int.toNat (zao ((oW x15 c65_0)+(len c66_0))))) (List.drop (Int.toNat (zao ((oW x15 c65_0)+(len c66_0)))) c65_0)) c66_0 c67_0) none) none)<|cond (ak (len c65_0) (len c66_0)) (some (.inl (((),((),())),((c64_0,()),((c65_0,()),((c66_0,()),((c67_0,()),(((),()),())))))))) none
noncomputable def Jt:bV:=⟨154,5,none,vz,[(.exit 2,jq),(.ret,mf)],4,fun n x=>nW n x.2.1.1 x.2.2.1.1 x.2.2.2.1.1 x.2.2.2.2.1.1,[],[66,67]⟩
theorem qX:jq.ok Tryz.prog hint:=by
 intro p hp;simp only [jq,List.mem_cons,List.not_mem_nil,or_false] at hp;rcases hp with rfl |rfl |rfl |rfl |rfl
 .trivial
 .trivial
 .trivial
 .trivial
 .exact oe.of (by kernel_rfl) (by kernel_rfl)
theorem u7:mf.ok Tryz.prog hint:=by
 intro p hp;simp only [mf,List.mem_cons,List.not_mem_nil,or_false] at hp;rcases hp with rfl |rfl |rfl |rfl |rfl
 .trivial
 .trivial
 .trivial
 .trivial
 .exact oe.of (by kernel_rfl) (by kernel_rfl)
theorem so:vz.ok Tryz.prog hint:=by
 intro p hp;simp only [vz,List.mem_cons,List.not_mem_nil,or_false] at hp;rcases hp with rfl |rfl |rfl |rfl |rfl
 .trivial
 .trivial
 .trivial
 .trivial
 .exact oe.of (by kernel_rfl) (by kernel_rfl)
theorem IC:∀ n,cA Tryz.prog hint s8 Jt n:=
 cA.of (hk:=fun Z=>(dq.mk [BW] []).hk Z) (sh:=s8) (eH.of (by kernel_rfl)) so ⟨⟨qX,zal _,zal _⟩,⟨u7,zal _,zal _⟩,trivial⟩ (fun m=>ab.eR (ab.nil.fn A6) m)
  (fun _=>by kernel_rfl) (fun m x=>by kernel_rfl)
noncomputable def Ao (n:Nat) (s:List UInt8):Option bv:=
 (nW n false s ([10]:List UInt8) 0).bind fun y18=>
 match y18 with
 | .inl y19=>
 (wZ n y19.2.2.1.1).bind fun y21=>
 cond (!y21.1) (some (false,()))<|some (true,())
 | .inr y20=>
 some (y20.2.1.1,())
theorem HM:FZ ⟨102,[(false,.str)],[(false,.bool)],5,fun n x=>Ao n x.1⟩:=dv ((ab.nil.loop IC so).fn A6)
noncomputable def may (n:Nat) (style:Int) (s:List UInt8) (flow:Bool):Option bv:=
 cond (Nat.ble (List.length s) 9223372036854775807) (cond (!(Go.Lib.validD s)) (some (false,()))<|(points (n+8) s).bind fun y0=>
 cond (style==1) ((tD n s y0.1).bind fun y1=>
 some (y1.1,()))<|cond (style==2) ((single (n+7) y0.1).bind fun y2=>
 some (y2.1,()))<|cond (style==3) (some (true,()))<|cond (style==4) ((literal (n+7) y0.1 flow).bind fun y3=>
 some (y3.1,()))<|cond (style==5) ((literal (n+7) y0.1 flow).bind fun y4=>
 cond y4.1 ((Ao (n+4) s).bind fun y5=>
 some (y5.1,()))<|some (false,()))<|some (false,())) none
theorem RV:FZ ⟨82,[(false,am),(false,.str),(false,.bool)],[(false,.bool)],10,fun n x=>may n x.1 x.2.1 x.2.2.1⟩:=dv (((((ab.nil.fn IJ).fn Eh).fn wQ).fn DU).fn HM)
noncomputable def E5 (_n:Nat) (c:Int):Option bv:=
 (cond (c==9) (some true)<|cond (c==10) (some true)<|cond (c==13) (some true)<|cond (ak 32 c) (cond (ak c 126) (some true)<|cond (c==133) (some true)<|cond (ak 160 c) (cond (aD c 55296) (some true)<|cond (ak 57344 c) (cond (ak c 65533) (some true)<|cond (ak 65536 c) (some (ak c 1114111))<|some false)<|cond (ak 65536 c) (some (ak c 1114111))<|some false)<|cond (ak 57344 c) (cond (ak c 65533) (some true)<|cond (ak 65536 c) (some (ak c 1114111))<|some false)<|cond (ak 65536 c) (some (ak c 1114111))<|some false)<|cond (c==133) (some true)<|cond (ak 160 c) (cond (aD c 55296) (some true)<|cond (ak 57344 c) (cond (ak c 65533) (some true)<|cond (ak 65536 c) (some (ak c 1114111))<|some false)<|cond (ak 65536 c) (some (ak c 1114111))<|some false)<|cond (ak 57344 c) (cond (ak c 65533) (some true)<|cond (ak 65536 c) (some (ak c 1114111))<|some false)<|cond (ak 65536 c) (some (ak c 1114111))<|some false).bind fun b1=>
 some (b1,())
noncomputable def lW (_n:Nat) (c:Int):Option bv:=
 (cond (ak 0 c) (cond (ak c 1114111) (cond (aD c 55296) (some true)<|some (aD 57343 c))<|some false)<|some false).bind fun b1=>
 some (b1,())
theorem Ht:FZ ⟨105,[(false,am)],[(false,.bool)],0,fun n x=>lW n x.1⟩:=dv ab.nil
noncomputable def jo:Nat->ce->Int->Int->Int->Int->Option (((Int×(Int×dg))×Unit)⊕((Int×dg)×Unit))
 |0,_,_,_,_,_=>none
 |n+1,t0,t5,t6,t7,t8=>
 cond (aD t8 t5) (cond (ak 0 t8) ((t0[(Int.toNat t8)]?).bind fun x9=>
 (cond (aD (zao (ub x9)) 128) (some true)<|some (aD 191 (zao (ub x9)))).bind fun b11=>
 cond b11 (some (.inr ((0,(0,())),())))<|jo n t0 t5 t6 (zao ((zao (t7*64))+(zd Go.IntKind.i64 (zao (ub x9)) 63))) (zao (t8+1))) none)<|some (.inl ((t5,(t6,(t7,()))),()))
theorem J3:LZ ⟨86,23,none,⟨[(0,.one (.aB .byte)),(5,ac),(6,ac),(7,ac),(8,ac)],[],64,64,1000⟩,[(.exit 1,⟨[(5,ac),(6,ac),(7,ac)],[],64,64,1000⟩),(.ret,⟨[(2,ac),(3,ac)],[],64,64,1000⟩)],0,fun n x=>let y:=x.1.2;jo n x.1.1 y.1 y.2.1 y.2.2.1 y.2.2.2.1,[],[]⟩:=fG ab.nil
noncomputable def qE (n:Nat) (b:List UInt8):Option (Int×dg):=
 (b[0]?).bind fun x0=>
 cond (aD (zao (ub x0)) 128) (some ((zao (ub x0)),1,()))<|(cond (ak 194 (zao (ub x0))) (some (aD (zao (ub x0)) 224))<|some false).bind fun b2=>
 cond b2 (cond (aD (len b) 2) (some (0,0,()))<|(jo (n+1) b 2 128 (zd Go.IntKind.i64 (zao (ub x0)) 31) 1).bind fun y12=>
 match y12 with
 | .inl y13=>
 cond (aD y13.1.2.2.1 y13.1.2.1) (some (0,0,()))<|(lW n y13.1.2.2.1).bind fun y15=>
 cond (!y15.1) (some (0,0,()))<|some (y13.1.2.2.1,y13.1.1,())
 | .inr y14=>
 some (y14.1.1,y14.1.2.1,()))<|(cond (ak 224 (zao (ub x0))) (some (aD (zao (ub x0)) 240))<|some false).bind fun b17=>
 cond b17 (cond (aD (len b) 3) (some (0,0,()))<|(jo (n+1) b 3 2048 (zd Go.IntKind.i64 (zao (ub x0)) 15) 1).bind fun y18=>
 match y18 with
 | .inl y19=>
 cond (aD y19.1.2.2.1 y19.1.2.1) (some (0,0,()))<|(lW n y19.1.2.2.1).bind fun y21=>
 cond (!y21.1) (some (0,0,()))<|some (y19.1.2.2.1,y19.1.1,())
 | .inr y20=>
 some (y20.1.1,y20.1.2.1,()))<|(cond (ak 240 (zao (ub x0))) (some (aD (zao (ub x0)) 245))<|some false).bind fun b23=>
 cond b23 (cond (aD (len b) 4) (some (0,0,()))<|(jo (n+1) b 4 65536 (zd Go.IntKind.i64 (zao (ub x0)) 7) 1).bind fun y24=>
 match y24 with
 | .inl y25=>
 cond (aD y25.1.2.2.1 y25.1.2.1) (some (0,0,()))<|(lW n y25.1.2.2.1).bind fun y27=>
 cond (!y27.1) (some (0,0,()))<|some (y25.1.2.2.1,y25.1.1,())
 | .inr y26=>
 some (y26.1.1,y26.1.2.1,()))<|some (0,0,())
theorem Js:FZ ⟨86,[(false,(.bH .byte))],[(false,am),(false,am)],1,fun n x=>qE n x.1⟩:=dv ((ab.nil.lp J3).fn Ht)
noncomputable def tX:Nat->ce->be->Int->Option ((d6×Unit)⊕((Unit×bv)×Unit))
 |0,_,_,_=>none
 |n+1,t0,t4,t5=>
 cond (aD t5 (len t0)) (cond ((ak 0 t5) &&(ak t5 (len t0))) ((qE (n+1) (List.take ((List.length t0) - (Int.toNat t5)) (List.drop (Int.toNat t5) t0))).bind fun y3=>
 cond (y3.2.1==0) (some (.inr (((),(false,())),())))<|cond (room (((List.length t4)+(List.length (y3.1::([]:List Int))))*9)) (tX n t0 (t4++(y3.1::([]:List Int))) (zao (t5+y3.2.1))) none) none)<|some (.inl ((t4,()),()))
theorem Kq:LZ ⟨62,3,none,⟨[(0,.one (.aB .byte)),FS 4 64 .ex,(5,ac)],[],64,65,1000⟩,[(.exit 0,⟨[FS 4 64 .ex],[],64,65,1000⟩),(.ret,⟨[(2,.one (m7)),(3,.one (.bool))],[],64,64,1000⟩)],2,fun n x=>tX n x.1.1 x.1.2.1 x.1.2.2.1,[],[]⟩:=fG (ab.nil.fn Js)
noncomputable def qP (n:Nat) (b:List UInt8):Option (be×bv):=
 (tX n b ([]:List Int) 0).bind fun y4=>
 match y4 with
 | .inl y5=>
 some (y5.1.1,true,())
 | .inr y6=>
 some (([]:List Int),y6.1.2.1,())
theorem Jg:FZ ⟨62,[(false,(.bH .byte))],[(false,(.bH am)),(false,.bool)],2,fun n x=>qP n x.1⟩:=dv (ab.nil.lp Kq)
noncomputable def C2 (n:Nat) (s:List UInt8):Option (be×bv):=
 (qP n s).bind fun y0=>
 some (y0.1,y0.2.1,())
theorem CZ:FZ ⟨42,[(false,.str)],[(false,(.bH am)),(false,.bool)],3,fun n x=>C2 n x.1⟩:=dv (ab.nil.fn Jg)
noncomputable def G3 (_n:Nat) (c:Int):Option bv:=
 (cond (ak 48 c) (cond (ak c 57) (some true)<|cond (ak 97 c) (cond (ak c 122) (some true)<|cond (ak 65 c) (cond (ak c 90) (some true)<|some (c==45))<|some (c==45))<|cond (ak 65 c) (cond (ak c 90) (some true)<|some (c==45))<|some (c==45))<|cond (ak 97 c) (cond (ak c 122) (some true)<|cond (ak 65 c) (cond (ak c 90) (some true)<|some (c==45))<|some (c==45))<|cond (ak 65 c) (cond (ak c 90) (some true)<|some (c==45))<|some (c==45)).bind fun b1=>
 some (b1,())
theorem Lq:FZ ⟨60,[(false,am)],[(false,.bool)],0,fun n x=>G3 n x.1⟩:=dv ab.nil
noncomputable def IM (_n:Nat) (c:Int):Option dg:=
 (cond (ak 48 c) (some (ak c 57))<|some false).bind fun b1=>
 cond b1 (some ((zao (c - 48)),()))<|(cond (ak 97 c) (some (ak c 102))<|some false).bind fun b3=>
 cond b3 (some ((zao ((zao (c - 97))+10)),()))<|(cond (ak 65 c) (some (ak c 70))<|some false).bind fun b5=>
 cond b5 (some ((zao ((zao (c - 65))+10)),()))<|some ((-1),())
theorem Ge:FZ ⟨85,[(false,am)],[(false,am)],0,fun n x=>IM n x.1⟩:=dv ab.nil
noncomputable def xV:Nat->ce->Int->Int->Option m0
 |0,_,_,_=>none
 |n+1,t0,t1,t5=>
 cond (aD t5 (len t0)) (cond (ak 0 t5) ((t0[(Int.toNat t5)]?).bind fun x2=>
 cond ((zao (ub x2))==t1) (some (.inr ((true,()),())))<|xV n t0 t1 (zao (t5+1))) none)<|some (.inl ((),()))
theorem Lr:LZ ⟨84,2,none,⟨[(0,.one (.str)),(1,ac),(5,ac)],[],64,64,1000⟩,[(.exit 0,⟨[],[],64,64,1000⟩),(.ret,⟨[(4,.one (.bool))],[],64,64,1000⟩)],0,fun n x=>xV n x.1.1 x.1.2.1 x.1.2.2.1,[],[]⟩:=fG ab.nil
noncomputable def mc (n:Nat) (s:List UInt8) (c:Int):Option bv:=
 (xV (n+1) s c 0).bind fun y3=>
 match y3 with
 | .inl _=>
 some (false,())
 | .inr y5=>
 some (y5.1.1,())
theorem JN:FZ ⟨84,[(false,.str),(false,am)],[(false,.bool)],1,fun n x=>mc n x.1 x.2.1⟩:=dv (ab.nil.lp Lr)
noncomputable def Mp (n:Nat) (l:List Int) (i:Int):Option dg:=
 cond (ak (len l) i) (some (0,()))<|cond (ak 0 i) ((l[(Int.toNat i)]?).bind fun x0=>
 (G3 (n+1) x0).bind fun y1=>
 cond y1.1 (some (1,()))<|(mc n ([35,59,47,63,58,64,38,61,43,36,44,95,46,33,126,42,39,40,41,91,93]:List UInt8) x0).bind fun y2=>
 cond y2.1 (some (1,()))<|cond (x0==37) (cond (aD (zao (i+2)) (len l)) (cond (ak 0 (zao (i+1))) ((l[(Int.toNat (zao (i+1)))]?).bind fun x3=>
 (IM (n+1) x3).bind fun y4=>
 cond (ak 0 y4.1) (cond (ak 0 (zao (i+2))) ((l[(Int.toNat (zao (i+2)))]?).bind fun x5=>
 (IM (n+1) x5).bind fun y6=>
 cond (ak 0 y6.1) (some (3,()))<|some (0,())) none)<|some (0,())) none)<|some (0,()))<|some (0,())) none
theorem Qq:FZ ⟨61,[(false,(.bH am)),(false,am)],[(false,am)],2,fun n x=>Mp n x.1 x.2.1⟩:=dv (((ab.nil.fn Lq).fn JN).fn Ge)
noncomputable def uF:Nat->be->Int->Option m0
 |0,_,_=>none
 |n+1,t3,t5=>
 cond (aD t5 (len t3)) ((Mp (n+1) t3 t5).bind fun y5=>
 cond (y5.1==0) (some (.inr ((false,()),())))<|uF n t3 (zao (t5+y5.1)))<|some (.inl ((),()))
theorem Mj:LZ ⟨41,5,none,⟨[(3,.one (.aB am)),(5,ac)],[],64,64,1000⟩,[(.exit 0,⟨[],[],64,64,1000⟩),(.ret,⟨[(2,.one (.bool))],[],64,64,1000⟩)],3,fun n x=>uF n x.1.1 x.1.2.1,[],[]⟩:=fG (ab.nil.fn Qq)
noncomputable def uO (n:Nat) (tag:List UInt8):Option bv:=
 (C2 n tag).bind fun y0=>
 (cond (!y0.2.1) (some true)<|some ((len y0.1)==0)).bind fun b2=>
 cond b2 (some (false,()))<|(uF (n+1) y0.1 0).bind fun y6=>
 match y6 with
 | .inl _=>
 some (true,())
 | .inr y8=>
 some (y8.1.1,())
theorem ID:FZ ⟨41,[(false,.str)],[(false,.bool)],4,fun n x=>uO n x.1⟩:=dv ((ab.nil.fn CZ).lp Mj)
noncomputable def ki (_n:Nat) (s:List UInt8) (x:List UInt8):Option bv:=
 cond (ak (len x) (len s)) (cond (ak (len x) (len s)) (some (((List.take ((Int.toNat (len x)) - 0) (List.drop 0 s))==x),())) none)<|some (false,())
theorem uD:FZ ⟨39,[(false,.str),(false,.str)],[(false,.bool)],0,fun n x=>ki n x.1 x.2.1⟩:=dv ab.nil
noncomputable def QZ (n:Nat) (c:Int) (flow:Bool):Option bv:=
 (E5 (n+2) c).bind fun y0=>
 cond y0.1 ((cond (c==32) (some true)<|some (c==9)).bind fun b2=>
 cond (!b2) (cond (c !=10) (cond (c !=13) (cond (c !=65279) (cond flow ((mc n ([44,91,93,123,125]:List UInt8) c).bind fun y3=>
 some ((!y3.1),()))<|some (true,()))<|some (false,()))<|some (false,()))<|some (false,()))<|some (false,()))<|some (false,())
noncomputable def Ep (_n:Nat) (x:(Int×gc)):Option bv:=
 (cond (x.1==7) (some true)<|cond (x.1==3) (some true)<|some (x.1==5)).bind fun b1=>
 (cond (x.1==1) (some true)<|cond (x.1==2) (some true)<|cond (x.1==3) (some true)<|some (x.1==5)).bind fun b3=>
 (cond (!(x.1==7)) (cond (!(x.2.1==([]:List UInt8))) (some true)<|cond (x.2.2.2.2.1 !=0) (some true)<|cond (x.1==7) (cond (aD x.2.2.2.2.1 1) (some true)<|some (aD 5 x.2.2.2.2.1))<|some false)<|cond (x.1==7) (cond (aD x.2.2.2.2.1 1) (some true)<|some (aD 5 x.2.2.2.2.1))<|some false).bind fun b5=>
 cond b5 (some (false,()))<|(cond (!b1) (cond (!(x.2.2.1==([]:List UInt8))) (some true)<|cond (!b1) (cond (x.1 !=8) (cond (!(x.2.2.2.1==([]:List UInt8))) (some true)<|cond (x.1==8) (some (x.2.2.2.1==([]:List UInt8)))<|some false)<|cond (x.1==8) (some (x.2.2.2.1==([]:List UInt8)))<|some false)<|cond (x.1==8) (some (x.2.2.2.1==([]:List UInt8)))<|some false)<|cond (!b1) (cond (x.1 !=8) (cond (!(x.2.2.2.1==([]:List UInt8))) (some true)<|cond (x.1==8) (some (x.2.2.2.1==([]:List UInt8)))<|some false)<|cond (x.1==8) (some (x.2.2.2.1==([]:List UInt8)))<|some false)<|cond (x.1==8) (some (x.2.2.2.1==([]:List UInt8)))<|some false).bind fun b7=>
 cond b7 (some (false,()))<|(cond b3 (some true)<|some (!x.2.2.2.2.2)).bind fun b9=>
 some (b9,())
theorem Rv:FZ ⟨36,[(true,ko)],[(false,.bool)],0,fun n x=>Ep n x.1⟩:=dv ab.nil
noncomputable def dw:Nat->gQ->be->m5->Int->Option m0
 |0,_,_,_,_=>none
 |n+1,t0,t3,t4,t5=>
 cond (aD t5 (len t0)) (cond (ak 0 t5) ((t0[(Int.toNat t5)]?).bind fun x71=>
 cond (x71.1==4) ((cond ((ak 0 (zao ((len t3) - 1))) &&(aD (zao ((len t3) - 1)) (len t4))) ((t4[(Int.toNat (zao ((len t3) - 1)))]?).bind fun x73=>
 cond x73 (cond ((ak 0 (zao ((len t3) - 1))) &&(aD (zao ((len t3) - 1)) (len t3))) ((t3[(Int.toNat (zao ((len t3) - 1)))]?).bind fun x74=>
 some ((Int.tmod x74 2)==1)) none)<|some false) none).bind fun b75=>
 cond b75 (some (.inr ((false,()),())))<|cond ((ak 0 (zao ((len t3) - 1))) &&(ak (zao ((len t3) - 1)) (len t3))) (cond ((ak 0 (zao ((len t3) - 1))) &&(ak (zao ((len t3) - 1)) (len t4))) (dw n t0 (List.take ((Int.toNat (zao ((len t3) - 1))) - 0) (List.drop 0 t3)) (List.take ((Int.toNat (zao ((len t3) - 1))) - 0) (List.drop 0 t4)) (zao (t5+1))) none) none)<|cond (x71.1==6) ((cond ((ak 0 (zao ((len t3) - 1))) &&(aD (zao ((len t3) - 1)) (len t4))) ((t4[(Int.toNat (zao ((len t3) - 1)))]?).bind fun x77=>
 cond x77 (cond ((ak 0 (zao ((len t3) - 1))) &&(aD (zao ((len t3) - 1)) (len t3))) ((t3[(Int.toNat (zao ((len t3) - 1)))]?).bind fun x78=>
 some ((Int.tmod x78 2)==1)) none)<|some false) none).bind fun b79=>
 cond b79 (some (.inr ((false,()),())))<|cond ((ak 0 (zao ((len t3) - 1))) &&(ak (zao ((len t3) - 1)) (len t3))) (cond ((ak 0 (zao ((len t3) - 1))) &&(ak (zao ((len t3) - 1)) (len t4))) (dw n t0 (List.take ((Int.toNat (zao ((len t3) - 1))) - 0) (List.drop 0 t3)) (List.take ((Int.toNat (zao ((len t3) - 1))) - 0) (List.drop 0 t4)) (zao (t5+1))) none) none)<|cond (aD 0 (len t3)) (cond ((ak 0 (zao ((len t3) - 1))) &&(aD (zao ((len t3) - 1)) (len t3))) ((t3[(Int.toNat (zao ((len t3) - 1)))]?).bind fun x80=>
 cond ((ak 0 (zao ((len t3) - 1))) &&(aD (zao ((len t3) - 1)) (len t3))) ((t3[(Int.toNat (zao ((len t3) - 1)))]?).bind fun _=>
 (cond (ak 0 t5) ((t0[(Int.toNat t5)]?).bind fun x83=>
 cond (x83.1==3) (some true)<|cond (ak 0 t5) ((t0[(Int.toNat t5)]?).bind fun x84=>
 some (x84.1==5)) none) none).bind fun b85=>
 cond b85 (cond (room (((List.length (List.set t3 (Int.toNat (zao ((len t3) - 1))) (zao (x80+1))))+(List.length (0::([]:List Int))))*9)) (cond (ak 0 t5) ((t0[(Int.toNat t5)]?).bind fun x86=>
 cond (room (((List.length t4)+(List.length ((x86.1==5)::([]:List Bool))))*2)) (dw n t0 ((List.set t3 (Int.toNat (zao ((len t3) - 1))) (zao (x80+1)))++(0::([]:List Int))) (t4++((x86.1==5)::([]:List Bool))) (zao (t5+1))) none) none) none)<|dw n t0 (List.set t3 (Int.toNat (zao ((len t3) - 1))) (zao (x80+1))) t4 (zao (t5+1))) none) none)<|(cond (ak 0 t5) ((t0[(Int.toNat t5)]?).bind fun x88=>
 cond (x88.1==3) (some true)<|cond (ak 0 t5) ((t0[(Int.toNat t5)]?).bind fun x89=>
 some (x89.1==5)) none) none).bind fun b90=>
 cond b90 (cond (room (((List.length t3)+(List.length (0::([]:List Int))))*9)) (cond (ak 0 t5) ((t0[(Int.toNat t5)]?).bind fun x91=>
 cond (room (((List.length t4)+(List.length ((x91.1==5)::([]:List Bool))))*2)) (dw n t0 (t3++(0::([]:List Int))) (t4++((x91.1==5)::([]:List Bool))) (zao (t5+1))) none) none) none)<|dw n t0 t3 t4 (zao (t5+1))) none)<|some (.inl ((),()))
theorem MZ:LZ ⟨38,4,none,⟨[(0,.one (.aB ko)),FS 3 64 .any,(4,.one (.all 65 4 .bool .any)),(5,ac)],[],64,66,1000⟩,[(.exit 0,⟨[],[],64,64,1000⟩),(.ret,⟨[(2,.one (.bool))],[],64,64,1000⟩)],0,fun n x=>dw n x.1.1 x.1.2.1 x.1.2.2.1 x.1.2.2.2.1,[],[]⟩:=fG ab.nil
noncomputable def pP (n:Nat) (l:List (Int×gc)):Option bv:=
 (dw (n+1) l ([]:List Int) ([]:List Bool) 0).bind fun y92=>
 match y92 with
 | .inl _=>
 some (true,())
 | .inr y94=>
 some (y94.1.1,())
theorem uY:FZ ⟨38,[(false,(.bH ko))],[(false,.bool)],1,fun n x=>pP n x.1⟩:=dv (ab.nil.lp MZ)
noncomputable def f37 (n:Nat) (t0:gQ) (t1:Int) (t6:Int):Option mt:=
 cond ((ak 0 (zao (t6+1))) &&(ak (zao (t6+1)) (len t0))) (cond ((ak 0 t1) &&(ak t1 (((Int.toNat (zao (t6+1))):Nat):Int))) ((pP (n+1) (List.take ((Int.toNat (zao (t6+1))) - (Int.toNat t1)) (List.drop (Int.toNat t1) t0))).bind fun y=>
 cond (!y.1) (some (.inr ((t1,()),())))<|some (.inr (((zao (t6+1)),()),()))) none) none
noncomputable def Ra (r:be->Option mt) (n:Nat) (t0:gQ) (t1:Int) (t5:List Int) (t6:Int):Option mt:=
 cond (ak 0 t6) ((t0[(Int.toNat t6)]?).bind fun x=>
 cond (room (((List.length t5)+(List.length ((zao (x.1+1))::([]:List Int))))*9)) (cond ((len (t5++((zao (x.1+1))::([]:List Int))))==0) (f37 n t0 t1 t6)<|r (t5++((zao (x.1+1))::([]:List Int)))) none) none
noncomputable def Re (r:be->Option mt) (n:Nat) (t0:gQ) (t1:Int) (t5:List Int) (t6:Int):Option mt:=
 cond ((len t5)==0) (some (.inr ((t1,()),())))<|cond ((ak 0 (zao ((len t5) - 1))) &&(aD (zao ((len t5) - 1)) (len t5))) ((t5[(Int.toNat (zao ((len t5) - 1)))]?).bind fun x=>
 cond (ak 0 t6) ((t0[(Int.toNat t6)]?).bind fun z=>
 cond (x !=z.1) (some (.inr ((t1,()),())))<|cond ((ak 0 (zao ((len t5) - 1))) &&(ak (zao ((len t5) - 1)) (len t5))) (cond (((((Int.toNat (zao ((len t5) - 1))) - 0):Nat):Int)==0) (f37 n t0 t1 t6)<|r (List.take ((Int.toNat (zao ((len t5) - 1))) - 0) (List.drop 0 t5))) none) none) none
noncomputable def dz:Nat->gQ->Int->be->Int->Option mt
 |0,_,_,_,_=>none
 |n+1,t0,t1,t5,t6=>
 cond (aD t6 (len t0)) (cond (ak 0 t6) ((t0[(Int.toNat t6)]?).bind fun x46=>
 cond (x46.1==7) (cond ((len t5)==0) (f37 n t0 t1 t6)<|dz n t0 t1 t5 (zao (t6+1)))<|cond (x46.1==8) (cond ((len t5)==0) (f37 n t0 t1 t6)<|dz n t0 t1 t5 (zao (t6+1)))<|cond (x46.1==3) (Ra (fun a=>dz n t0 t1 a (zao (t6+1))) n t0 t1 t5 t6)<|cond (x46.1==5) (Ra (fun a=>dz n t0 t1 a (zao (t6+1))) n t0 t1 t5 t6)<|cond (x46.1==4) (Re (fun a=>dz n t0 t1 a (zao (t6+1))) n t0 t1 t5 t6)<|cond (x46.1==6) (Re (fun a=>dz n t0 t1 a (zao (t6+1))) n t0 t1 t5 t6)<|some (.inr ((t1,()),()))) none)<|some (.inl ((t1,()),()))
theorem L1:LZ ⟨37,5,none,⟨[(0,.one (.aB ko)),(1,ac),FS 5 64 .any,(6,ac)],[],64,65,1000⟩,[(.exit 0,⟨[(1,ac)],[],64,64,1000⟩),(.ret,⟨[(4,ac)],[],64,64,1000⟩)],2,fun n x=>dz n x.1.1 x.1.2.1 x.1.2.2.1 x.1.2.2.2.1,[],[]⟩:=fG (ab.nil.fn uY)
noncomputable def Pe (n:Nat) (l:List (Int×gc)) (i:Int):Option dg:=
 (cond (aD i 0) (some true)<|some (ak (len l) i)).bind fun b1=>
 cond b1 (some (i,()))<|(dz n l i ([]:List Int) i).bind fun y59=>
 match y59 with
 | .inl y60=>
 some (y60.1.1,())
 | .inr y61=>
 some (y61.1.1,())
theorem PH:FZ ⟨37,[(false,(.bH ko)),(false,am)],[(false,am)],2,fun n x=>Pe n x.1 x.2.1⟩:=dv (ab.nil.lp L1)
noncomputable def xa:Nat->gQ->Int->Option (((gQ×Unit)×Unit)⊕(bv×Unit))
 |0,_,_=>none
 |n+1,t0,t3=>
 cond (aD t3 (len t0)) (cond (ak 0 t3) ((t0[(Int.toNat t3)]?).bind fun x4=>
 (Ep (n+1) (x4.1,(x4.2.1,(x4.2.2.1,(x4.2.2.2.1,(x4.2.2.2.2.1,x4.2.2.2.2.2)))))).bind fun y5=>
 cond (!y5.1) (some (.inr ((false,()),())))<|xa n t0 (zao (t3+1))) none)<|some (.inl ((t0,()),()))
theorem K0:LZ ⟨19,2,none,⟨[(0,.one (.aB ko)),(3,ac)],[],64,64,1000⟩,[(.exit 0,⟨[(0,.one (.aB ko))],[],64,64,1000⟩),(.ret,⟨[(2,.one (.bool))],[],64,64,1000⟩)],1,fun n x=>xa n x.1.1 x.1.2.1,[],[]⟩:=fG (ab.nil.fn Rv)
noncomputable def yi:Nat->gQ->Int->Option m0
 |0,_,_=>none
 |n+1,t0,t4=>
 cond (aD t4 (len t0)) (cond (ak 0 t4) ((t0[(Int.toNat t4)]?).bind fun x17=>
 cond (x17.1 !=1) (some (.inr ((false,()),())))<|(Pe (n+1) t0 (zao (t4+1))).bind fun y18=>
 cond (y18.1==(zao (t4+1))) (some (.inr ((false,()),())))<|cond (ak (len t0) y18.1) (some (.inr ((false,()),())))<|cond (ak 0 y18.1) ((t0[(Int.toNat y18.1)]?).bind fun x19=>
 cond (x19.1 !=2) (some (.inr ((false,()),())))<|cond ((ak 0 y18.1) &&(ak y18.1 (len t0))) (cond ((ak 0 (zao (t4+1))) &&(ak (zao (t4+1)) (((Int.toNat y18.1):Nat):Int))) ((pP (n+2) (List.take ((Int.toNat y18.1) - (Int.toNat (zao (t4+1)))) (List.drop (Int.toNat (zao (t4+1))) t0))).bind fun y20=>
 cond (!y20.1) (some (.inr ((false,()),())))<|yi n t0 (zao (y18.1+1))) none) none) none) none)<|some (.inl ((),()))
theorem NS:LZ ⟨19,7,none,⟨[(0,.one (.aB ko)),(4,ac)],[],64,64,2001⟩,[(.exit 2,⟨[],[],64,64,2001⟩),(.ret,⟨[(2,.one (.bool))],[],64,64,2001⟩)],3,fun n x=>yi n x.1.1 x.1.2.1,[],[]⟩:=fG ((ab.nil.fn PH).fn uY)
noncomputable def mF (n:Nat) (l:List (Int×gc)):Option bv:=
 (xa (n+2) l 0).bind fun y6=>
 match y6 with
 | .inl y7=>
 (yi n y7.1.1 0).bind fun y21=>
 match y21 with
  | .inl _=>
  some (true,())
  | .inr y23=>
  some (y23.1.1,())
 | .inr y8=>
 some (y8.1.1,())
theorem EF:FZ ⟨19,[(false,(.bH ko))],[(false,.bool)],3,fun n x=>mF n x.1⟩:=dv ((ab.nil.lp K0).lp NS)
noncomputable def NZ (_n:Nat) (k:Int):Option jp:=
 cond (k==1) (some (([116,97,103,58,121,97,109,108,46,111,114,103,44,50,48,48,50,58,115,116,114]:List UInt8),()))<|cond (k==2) (some (([116,97,103,58,121,97,109,108,46,111,114,103,44,50,48,48,50,58,115,101,113]:List UInt8),()))<|cond (k==3) (some (([116,97,103,58,121,97,109,108,46,111,114,103,44,50,48,48,50,58,109,97,112]:List UInt8),()))<|some (([]:List UInt8),())
theorem F0:FZ ⟨97,[(false,am)],[(false,.str)],0,fun n x=>NZ n x.1⟩:=dv ab.nil
noncomputable def nC (n:Nat) (k:Int) (s:List UInt8):Option jp:=
 (NZ n k).bind fun y0=>
 cond (s==y0.1) (some (([]:List UInt8),()))<|some (s,())
theorem xM:FZ ⟨81,[(false,am),(false,.str)],[(false,.str)],1,fun n x=>nC n x.1 x.2.1⟩:=dv (ab.nil.fn F0)
noncomputable def CL (D:Nat) (F:Nat->aw [(false,am)]×bc [(64,sm 65 66 67),(65,.map 3 false false am am false),(66,.map 3 false false am .str false)]->Option (PR none (aw [(false,.str)]×bc [(64,sm 65 66 67),(65,.map 3 false false am am false),(66,.map 3 false false am .str false)]))):du:=⟨57,[(TV.ptr 64 0)],[(false,am)],[(false,.str)],67,[(64,sm 65 66 67),(65,.map 3 false false am am false),(66,.map 3 false false am .str false)],68,[(64,sm 65 66 67),(65,.map 3 false false am am false),(66,.map 3 false false am .str false)],68,false,none,none,D,F⟩
noncomputable def tz (_n:Nat) (i:Int) (c64_0:bL) (c64_1:be) (c64_2:Int) (c64_3:Int) (c64_4:Int) (c64_5:Bool) (c64_6:Bool) (c64_9:Int) (c64_10:gQ) (m65:i8) (m66:mH):Option (jp×(bi×(i8×(mH×Unit)))):=
 cond (aD (aW hIn m65 i 0) 2) (some ((([]:List UInt8),()),((c64_0,(c64_1,(c64_2,(c64_3,(c64_4,(c64_5,(c64_6,((),((),(c64_9,(c64_10,()))))))))))),(m65,(m66,())))))<|cond (FG (zao ((len m66)+1))) (cond (room ((List.length ([97]:List UInt8))+(List.length (Go.Lib.itoa (zao ((len m66)+1)))))) (some (((aW hIn (de hIn m66 i (([97]:List UInt8)++(Go.Lib.itoa (zao ((len m66)+1))))) i ([]:List UInt8)),()),((c64_0,(c64_1,(c64_2,(c64_3,(c64_4,(c64_5,(c64_6,((),((),(c64_9,(c64_10,()))))))))))),(m65,((de hIn m66 i (([97]:List UInt8)++(Go.Lib.itoa (zao ((len m66)+1))))),()))))) none) none
noncomputable def EA:du:=CL 1 (fun n x=>let y:=x.2.1.2.2.2;let z:=y.2.2;tz n x.1.1 x.2.1.1 x.2.1.2.1 x.2.1.2.2.1 y.1 y.2.1 z.1 z.2.1 z.2.2.2.2.1 z.2.2.2.2.2.1 x.2.2.1 x.2.2.2.1)
theorem EH (n:Nat):cC Tryz.prog hint s8 EA n:=T9 n ab.nil
noncomputable def CD (D:Nat) (F:Nat->aw [(true,bT),(false,.bool)]×bc [(64,sm 65 66 67),(65,.map 3 false false am am false),(66,.map 3 false false am .str false)]->Option (PR none (aw [(true,ko)]×bc [(64,sm 65 66 67),(65,.map 3 false false am am false),(66,.map 3 false false am .str false)]))):du:=⟨59,[(TV.ptr 64 0)],[(true,bT),(false,.bool)],[(true,ko)],67,[(64,sm 65 66 67),(65,.map 3 false false am am false),(66,.map 3 false false am .str false)],68,[(64,sm 65 66 67),(65,.map 3 false false am am false),(66,.map 3 false false am .str false)],68,false,none,none,D,F⟩
noncomputable def pI (n:Nat) (x:(Int×ci)) (inner:Bool) (c64_0:bL) (c64_1:be) (c64_2:Int) (c64_3:Int) (c64_4:Int) (c64_5:Bool) (c64_6:Bool) (c64_9:Int) (c64_10:gQ) (m65:i8) (m66:mH):Option (((Int×gc)×Unit)×(bi×(i8×(mH×Unit)))):=
 (may n c64_4 x.2.2.1 inner).bind fun y0=>
 cond (!y0.1) ((nC (n+9) x.1 x.2.1).bind fun y1=>
 some (((7,(x.2.2.1,(y1.1,(([]:List UInt8),(3,false))))),()),((c64_0,(c64_1,(c64_2,(c64_3,(c64_4,(c64_5,(c64_6,((),((),(c64_9,(c64_10,()))))))))))),(m65,(m66,())))))<|(nC (n+9) x.1 x.2.1).bind fun y2=>
 cond (c64_4 !=1) (some (((7,(x.2.2.1,(y2.1,(([]:List UInt8),(c64_4,false))))),()),((c64_0,(c64_1,(c64_2,(c64_3,(c64_4,(c64_5,(c64_6,((),((),(c64_9,(c64_10,()))))))))))),(m65,(m66,())))))<|(cond (x.1 !=1) (some true)<|some false).bind fun b5=>
 cond b5 ((NZ (n+9) x.1).bind fun y6=>
 cond (y6.1==x.2.1) (some (((7,(x.2.2.1,(([]:List UInt8),(([]:List UInt8),(c64_4,false))))),()),((c64_0,(c64_1,(c64_2,(c64_3,(c64_4,(c64_5,(c64_6,((),((),(c64_9,(c64_10,()))))))))))),(m65,(m66,())))))<|cond (y2.1==([]:List UInt8)) (some (((7,(x.2.2.1,(y2.1,(([]:List UInt8),(3,false))))),()),((c64_0,(c64_1,(c64_2,(c64_3,(c64_4,(c64_5,(c64_6,((),((),(c64_9,(c64_10,()))))))))))),(m65,(m66,())))))<|some (((7,(x.2.2.1,(y2.1,(([]:List UInt8),(c64_4,false))))),()),((c64_0,(c64_1,(c64_2,(c64_3,(c64_4,(c64_5,(c64_6,((),((),(c64_9,(c64_10,()))))))))))),(m65,(m66,())))))<|(core (n+3) x.2.2.1).bind fun y7=>
 cond (room ((List.length ([116,97,103,58,121,97,109,108,46,111,114,103,44,50,48,48,50,58]:List UInt8))+(List.length y7.1))) (cond ((([116,97,103,58,121,97,109,108,46,111,114,103,44,50,48,48,50,58]:List UInt8)++y7.1)==x.2.1) (some (((7,(x.2.2.1,(([]:List UInt8),(([]:List UInt8),(c64_4,false))))),()),((c64_0,(c64_1,(c64_2,(c64_3,(c64_4,(c64_5,(c64_6,((),((),(c64_9,(c64_10,()))))))))))),(m65,(m66,())))))<|cond (y2.1==([]:List UInt8)) (some (((7,(x.2.2.1,(y2.1,(([]:List UInt8),(3,false))))),()),((c64_0,(c64_1,(c64_2,(c64_3,(c64_4,(c64_5,(c64_6,((),((),(c64_9,(c64_10,()))))))))))),(m65,(m66,())))))<|some (((7,(x.2.2.1,(y2.1,(([]:List UInt8),(c64_4,false))))),()),((c64_0,(c64_1,(c64_2,(c64_3,(c64_4,(c64_5,(c64_6,((),((),(c64_9,(c64_10,()))))))))))),(m65,(m66,()))))) none
noncomputable def DM:du:=CD 11 (fun n x=>let y:=x.2.1.2.2.2;let z:=y.2.2;pI n x.1.1 x.1.2.1 x.2.1.1 x.2.1.2.1 x.2.1.2.2.1 y.1 y.2.1 z.1 z.2.1 z.2.2.2.2.1 z.2.2.2.2.2.1 x.2.2.1 x.2.2.2.1)
theorem FL (n:Nat):cC Tryz.prog hint s8 DM n:=T9 n ((((ab.nil.fn RV).fn xM).fn F0).fn PF)
noncomputable def jT (D:Nat) (F:Nat->aw [(false,am),(false,.bool),(false,am)]×bc [(64,sm 65 66 67),(65,.map 3 false false am am false),(66,.map 3 false false am .str false)]->Option (PR none (aw [(false,am)]×bc [(64,sm 65 66 67),(65,.map 3 false false am am false),(66,.map 3 false false am .str false)]))):du:=⟨35,[(TV.ptr 64 0)],[(false,am),(false,.bool),(false,am)],[(false,am)],67,[(64,sm 65 66 67),(65,.map 3 false false am am false),(66,.map 3 false false am .str false)],68,[(64,sm 65 66 67),(65,.map 3 false false am am false),(66,.map 3 false false am .str false)],68,false,none,none,D,F⟩
theorem LQ (D:Nat) (F):(jT D F).T.ok Tryz.prog hint:=Tm.J8 rfl
noncomputable def AA (Fr:Nat->Int->Bool->Int->bL->be->Int->Int->Int->Bool->Bool->Int->gQ->i8->mH->Option d9):du:=jT 0 (fun n x=>let y:=x.2.1.2.2.2;let z:=y.2.2;Fr n x.1.1 x.1.2.1 x.1.2.2.1 x.2.1.1 x.2.1.2.1 x.2.1.2.2.1 y.1 y.2.1 z.1 z.2.1 z.2.2.2.2.1 z.2.2.2.2.2.1 x.2.2.1 x.2.2.2.1)
noncomputable def oU:Tm:=⟨[EQ 0 64,(11,ac)],[(64,sm 65 66 74),(65,.map 3 false false am am false),(66,.map 3 false false am .str false),(70,ul)],74,75,1010⟩
noncomputable def v7:Tm:=⟨[(10,ac)],[(64,sm 65 66 74),(65,.map 3 false false am am false),(66,.map 3 false false am .str false),(70,ul)],74,75,1010⟩
noncomputable def Gm:Tm:=⟨[EQ 0 64,(3,.one (.bool)),(4,ac),EQ 6 70,(11,ac),(43,.one (.aB am)),(44,ac),(45,ac)],[(64,sm 65 66 74),(65,.map 3 false false am am false),(66,.map 3 false false am .str false),(70,ul)],74,75,1010⟩
noncomputable def mY (Fr:Nat->Int->Bool->Int->bL->be->Int->Int->Int->Bool->Bool->Int->gQ->i8->mH->Option d9):Nat->Bool->Int->Int->be->Int->Int->bL->be->Int->Int->Int->Bool->Bool->Int->gQ->i8->mH->Int->ce->ce->be->Bool->Option (((Unit×dg)×(bi×(i8×(mH×lc))))⊕(dg×(bi×(i8×(mH×lc)))))
 |0,_,_,_,_,_,_,_,_,_,_,_,_,_,_,_,_,_,_,_,_,_,_=>none
 |n+1,t3,t4,t11,t43,t44,t45,c64_0,c64_1,c64_2,c64_3,c64_4,c64_5,c64_6,c64_9,c64_10,m65,m66,c70_0,c70_1,c70_2,c70_3,c70_4=>
 cond (aD t45 t44) (cond (ak 0 t45) ((t43[(Int.toNat t45)]?).bind fun x13=>
 cond t3 ((Fr (n+1) x13 true (zao (t4+1)) c64_0 c64_1 c64_2 c64_3 c64_4 c64_5 c64_6 c64_9 c64_10 m65 m66).bind fun y14=>
 cond (y14.1.1 !=0) (some (.inr ((y14.1.1,()),((y14.2.1.1,(y14.2.1.2.1,(y14.2.1.2.2.1,(y14.2.1.2.2.2.1,(y14.2.1.2.2.2.2.1,(y14.2.1.2.2.2.2.2.1,(y14.2.1.2.2.2.2.2.2.1,((),((),(y14.2.1.2.2.2.2.2.2.2.2.2.1,(y14.2.1.2.2.2.2.2.2.2.2.2.2.1,()))))))))))),(y14.2.2.1,(y14.2.2.2.1,((c70_0,(c70_1,(c70_2,(c70_3,(c70_4,()))))),())))))))<|mY Fr n t3 t4 t11 t43 t44 (zao (t45+1)) y14.2.1.1 y14.2.1.2.1 y14.2.1.2.2.1 y14.2.1.2.2.2.1 y14.2.1.2.2.2.2.1 y14.2.1.2.2.2.2.2.1 y14.2.1.2.2.2.2.2.2.1 y14.2.1.2.2.2.2.2.2.2.2.2.1 y14.2.1.2.2.2.2.2.2.2.2.2.2.1 y14.2.2.1 y14.2.2.2.1 c70_0 c70_1 c70_2 c70_3 c70_4)<|cond (c70_0==3) ((Fr (n+1) x13 ((Int.tmod t45 2)==0) (zao (t4+1)) c64_0 c64_1 c64_2 c64_3 c64_4 c64_5 c64_6 c64_9 c64_10 m65 m66).bind fun y15=>
 cond (y15.1.1 !=0) (some (.inr ((y15.1.1,()),((y15.2.1.1,(y15.2.1.2.1,(y15.2.1.2.2.1,(y15.2.1.2.2.2.1,(y15.2.1.2.2.2.2.1,(y15.2.1.2.2.2.2.2.1,(y15.2.1.2.2.2.2.2.2.1,((),((),(y15.2.1.2.2.2.2.2.2.2.2.2.1,(y15.2.1.2.2.2.2.2.2.2.2.2.2.1,()))))))))))),(y15.2.2.1,(y15.2.2.2.1,((c70_0,(c70_1,(c70_2,(c70_3,(c70_4,()))))),())))))))<|mY Fr n t3 t4 t11 t43 t44 (zao (t45+1)) y15.2.1.1 y15.2.1.2.1 y15.2.1.2.2.1 y15.2.1.2.2.2.1 y15.2.1.2.2.2.2.1 y15.2.1.2.2.2.2.2.1 y15.2.1.2.2.2.2.2.2.1 y15.2.1.2.2.2.2.2.2.2.2.2.1 y15.2.1.2.2.2.2.2.2.2.2.2.2.1 y15.2.2.1 y15.2.2.2.1 c70_0 c70_1 c70_2 c70_3 c70_4)<|(Fr (n+1) x13 false (zao (t4+1)) c64_0 c64_1 c64_2 c64_3 c64_4 c64_5 c64_6 c64_9 c64_10 m65 m66).bind fun y16=>
 cond (y16.1.1 !=0) (some (.inr ((y16.1.1,()),((y16.2.1.1,(y16.2.1.2.1,(y16.2.1.2.2.1,(y16.2.1.2.2.2.1,(y16.2.1.2.2.2.2.1,(y16.2.1.2.2.2.2.2.1,(y16.2.1.2.2.2.2.2.2.1,((),((),(y16.2.1.2.2.2.2.2.2.2.2.2.1,(y16.2.1.2.2.2.2.2.2.2.2.2.2.1,()))))))))))),(y16.2.2.1,(y16.2.2.2.1,((c70_0,(c70_1,(c70_2,(c70_3,(c70_4,()))))),())))))))<|mY Fr n t3 t4 t11 t43 t44 (zao (t45+1)) y16.2.1.1 y16.2.1.2.1 y16.2.1.2.2.1 y16.2.1.2.2.2.1 y16.2.1.2.2.2.2.1 y16.2.1.2.2.2.2.2.1 y16.2.1.2.2.2.2.2.2.1 y16.2.1.2.2.2.2.2.2.2.2.2.1 y16.2.1.2.2.2.2.2.2.2.2.2.2.1 y16.2.2.1 y16.2.2.2.1 c70_0 c70_1 c70_2 c70_3 c70_4) none)<|some (.inl (((),(t11,())),((c64_0,(c64_1,(c64_2,(c64_3,(c64_4,(c64_5,(c64_6,((),((),(c64_9,(c64_10,()))))))))))),(m65,(m66,((c70_0,(c70_1,(c70_2,(c70_3,(c70_4,()))))),()))))))
noncomputable def Le (Fr:Nat->Int->Bool->Int->bL->be->Int->Int->Int->Bool->Bool->Int->gQ->i8->mH->Option d9):bV:=⟨58,6,none,Gm,[(.exit 0,oU),(.ret,v7)],1,fun n x=>mY Fr n x.1.2.1 x.1.2.2.1 x.1.2.2.2.2.1 x.1.2.2.2.2.2.1 x.1.2.2.2.2.2.2.1 x.1.2.2.2.2.2.2.2.1 x.2.1.1 x.2.1.2.1 x.2.1.2.2.1 x.2.1.2.2.2.1 x.2.1.2.2.2.2.1 x.2.1.2.2.2.2.2.1 x.2.1.2.2.2.2.2.2.1 x.2.1.2.2.2.2.2.2.2.2.2.1 x.2.1.2.2.2.2.2.2.2.2.2.2.1 x.2.2.1 x.2.2.2.1 x.2.2.2.2.1.1 x.2.2.2.2.1.2.1 x.2.2.2.2.1.2.2.1 x.2.2.2.2.1.2.2.2.1 x.2.2.2.2.1.2.2.2.2.1,[68,71,72],[70]⟩
theorem sZ:oU.ok Tryz.prog hint:=Tm.J8 rfl
theorem wg:v7.ok Tryz.prog hint:=Tm.J8 rfl
theorem tZ:Gm.ok Tryz.prog hint:=Tm.J8 rfl
theorem Mv (Fr:Nat->Int->Bool->Int->bL->be->Int->Int->Int->Bool->Bool->Int->gQ->i8->mH->Option d9) (hFr:∀ m,cC Tryz.prog hint s8 (AA Fr) m):∀ n,cA Tryz.prog hint s8 (Le Fr) n:=
 cA.of (hk:=fun Z=>(dq.mk [] []).QK [(AA Fr)] Z) (sh:=s8) (eH.of (by kernel_rfl)) tZ ⟨⟨sZ,zal _,zal _⟩,⟨wg,zal _,zal _⟩,trivial⟩ (fun m=>ab.G5 ab.nil (eb.nil.fn hFr (LQ _ _)) m)
  (fun _=>by kernel_rfl) (fun m x=>by kernel_rfl)
noncomputable def lf (Fr:Nat->Int->Bool->Int->bL->be->Int->Int->Int->Bool->Bool->Int->gQ->i8->mH->Option d9) (n:Nat) (key:Bool) (deep:Int) (ek:Int) (kd:Int) (tg:List UInt8) (s:List UInt8) (ks:List Int) (pl:Bool) (t:List UInt8) (a:List UInt8) (fl:Bool) (c0:bL) (c1:List Int) (c2:Int) (c3:Int) (c4:Int) (c5:Bool) (c6:Bool) (c9:Int) (c10:gQ) (m65:List co) (m66:List ls):Option d9:=
 cond (room (((List.length c10)+(List.length ((ek,(([]:List UInt8),(t,(a,((0:Int),fl))))):: [])))*73)) ((mY Fr n key deep ek ks (len ks) 0 c0 c1 c2 c3 c4 c5 c6 c9 (c10++((ek,(([]:List UInt8),(t,(a,(0,fl))))):: [])) m65 m66 kd tg s ks pl).bind fun y17=>
 match y17 with
 | .inl y18=>
 cond (room (((List.length y18.2.1.2.2.2.2.2.2.2.2.2.2.1)+(List.length (((zao (y18.1.2.1+(1:Int))),(([]:List UInt8),(([]:List UInt8),(([]:List UInt8),((0:Int),false))))):: [])))*73)) (some ((0,()),((y18.2.1.1,(y18.2.1.2.1,(y18.2.1.2.2.1,(y18.2.1.2.2.2.1,(y18.2.1.2.2.2.2.1,(y18.2.1.2.2.2.2.2.1,(y18.2.1.2.2.2.2.2.2.1,((),((),(y18.2.1.2.2.2.2.2.2.2.2.2.1,((y18.2.1.2.2.2.2.2.2.2.2.2.2.1++(((zao (y18.1.2.1+1)),(([]:List UInt8),(([]:List UInt8),(([]:List UInt8),(0,false))))):: [])),()))))))))))),(y18.2.2.1,(y18.2.2.2.1,()))))) none
 | .inr y19=>
 some ((y19.1.1,()),((y19.2.1.1,(y19.2.1.2.1,(y19.2.1.2.2.1,(y19.2.1.2.2.2.1,(y19.2.1.2.2.2.2.1,(y19.2.1.2.2.2.2.2.1,(y19.2.1.2.2.2.2.2.2.1,((),((),(y19.2.1.2.2.2.2.2.2.2.2.2.1,(y19.2.1.2.2.2.2.2.2.2.2.2.2.1,()))))))))))),(y19.2.2.1,(y19.2.2.2.1,()))))) none
noncomputable def zh (Fr:Nat->Int->Bool->Int->bL->be->Int->Int->Int->Bool->Bool->Int->gQ->i8->mH->Option d9) (n:Nat) (i:Int) (key:Bool) (deep:Int) (c64_0:bL) (c64_1:be) (c64_2:Int) (c64_3:Int) (c64_4:Int) (c64_5:Bool) (c64_6:Bool) (c64_9:Int) (c64_10:gQ) (m65:i8) (m66:mH):Option d9:=
 cond (IY hIn m66 i) (cond (room (((List.length c64_10)+(List.length (((8:Int),(([]:List UInt8),(([]:List UInt8),((aW hIn m66 i ([]:List UInt8)),((0:Int),false))))):: [])))*73)) (some ((0,()),((c64_0,(c64_1,(c64_2,(c64_3,(c64_4,(c64_5,(c64_6,((),((),(c64_9,((c64_10++((8,(([]:List UInt8),(([]:List UInt8),((aW hIn m66 i ([]:List UInt8)),(0,false))))):: [])),()))))))))))),(m65,(m66,()))))) none)<|cond (ak 0 i) ((c64_0[(Int.toNat i)]?).bind fun x0=>
 (cond (x0.1 !=1) (some (deep==200))<|some false).bind fun b2=>
 cond b2 (some ((8,()),((c64_0,(c64_1,(c64_2,(c64_3,(c64_4,(c64_5,(c64_6,((),((),(c64_9,(c64_10,()))))))))))),(m65,(m66,())))))<|cond (aD 20000 (zao (c64_9+1))) (some ((9,()),((c64_0,(c64_1,(c64_2,(c64_3,(c64_4,(c64_5,(c64_6,((),((),((zao (c64_9+1)),(c64_10,()))))))))))),(m65,(m66,())))))<|(tz (n+10) i c64_0 c64_1 c64_2 c64_3 c64_4 c64_5 c64_6 (zao (c64_9+1)) c64_10 m65 m66).bind fun y3=>
 cond (x0.1 !=1) (cond (x0.1==3) ((nC (n+9) x0.1 x0.2.1).bind fun y4=>
 cond y3.2.1.2.2.2.2.2.1 (lf Fr (n+10) key deep 5 x0.1 x0.2.1 x0.2.2.1 x0.2.2.2.1 x0.2.2.2.2 y4.1 y3.1.1 true y3.2.1.1 y3.2.1.2.1 y3.2.1.2.2.1 y3.2.1.2.2.2.1 y3.2.1.2.2.2.2.1 y3.2.1.2.2.2.2.2.1 y3.2.1.2.2.2.2.2.2.1 y3.2.1.2.2.2.2.2.2.2.2.2.1 y3.2.1.2.2.2.2.2.2.2.2.2.2.1 y3.2.2.1 y3.2.2.2.1)<|cond key (lf Fr (n+10) key deep 5 x0.1 x0.2.1 x0.2.2.1 x0.2.2.2.1 x0.2.2.2.2 y4.1 y3.1.1 true y3.2.1.1 y3.2.1.2.1 y3.2.1.2.2.1 y3.2.1.2.2.2.1 y3.2.1.2.2.2.2.1 y3.2.1.2.2.2.2.2.1 y3.2.1.2.2.2.2.2.2.1 y3.2.1.2.2.2.2.2.2.2.2.2.1 y3.2.1.2.2.2.2.2.2.2.2.2.2.1 y3.2.2.1 y3.2.2.2.1)<|lf Fr (n+10) key deep 5 x0.1 x0.2.1 x0.2.2.1 x0.2.2.2.1 x0.2.2.2.2 y4.1 y3.1.1 ((len x0.2.2.2.1)==0) y3.2.1.1 y3.2.1.2.1 y3.2.1.2.2.1 y3.2.1.2.2.2.1 y3.2.1.2.2.2.2.1 y3.2.1.2.2.2.2.2.1 y3.2.1.2.2.2.2.2.2.1 y3.2.1.2.2.2.2.2.2.2.2.2.1 y3.2.1.2.2.2.2.2.2.2.2.2.2.1 y3.2.2.1 y3.2.2.2.1)<|(nC (n+9) x0.1 x0.2.1).bind fun y26=>
 cond y3.2.1.2.2.2.2.2.1 (lf Fr (n+10) key deep 3 x0.1 x0.2.1 x0.2.2.1 x0.2.2.2.1 x0.2.2.2.2 y26.1 y3.1.1 true y3.2.1.1 y3.2.1.2.1 y3.2.1.2.2.1 y3.2.1.2.2.2.1 y3.2.1.2.2.2.2.1 y3.2.1.2.2.2.2.2.1 y3.2.1.2.2.2.2.2.2.1 y3.2.1.2.2.2.2.2.2.2.2.2.1 y3.2.1.2.2.2.2.2.2.2.2.2.2.1 y3.2.2.1 y3.2.2.2.1)<|cond key (lf Fr (n+10) key deep 3 x0.1 x0.2.1 x0.2.2.1 x0.2.2.2.1 x0.2.2.2.2 y26.1 y3.1.1 true y3.2.1.1 y3.2.1.2.1 y3.2.1.2.2.1 y3.2.1.2.2.2.1 y3.2.1.2.2.2.2.1 y3.2.1.2.2.2.2.2.1 y3.2.1.2.2.2.2.2.2.1 y3.2.1.2.2.2.2.2.2.2.2.2.1 y3.2.1.2.2.2.2.2.2.2.2.2.2.1 y3.2.2.1 y3.2.2.2.1)<|lf Fr (n+10) key deep 3 x0.1 x0.2.1 x0.2.2.1 x0.2.2.2.1 x0.2.2.2.2 y26.1 y3.1.1 ((len x0.2.2.2.1)==0) y3.2.1.1 y3.2.1.2.1 y3.2.1.2.2.1 y3.2.1.2.2.2.1 y3.2.1.2.2.2.2.1 y3.2.1.2.2.2.2.2.1 y3.2.1.2.2.2.2.2.2.1 y3.2.1.2.2.2.2.2.2.2.2.2.1 y3.2.1.2.2.2.2.2.2.2.2.2.2.1 y3.2.2.1 y3.2.2.2.1)<|cond y3.2.1.2.2.2.2.2.1 ((pI n (x0.1,(x0.2.1,(x0.2.2.1,(x0.2.2.2.1,x0.2.2.2.2)))) true y3.2.1.1 y3.2.1.2.1 y3.2.1.2.2.1 y3.2.1.2.2.2.1 y3.2.1.2.2.2.2.1 y3.2.1.2.2.2.2.2.1 y3.2.1.2.2.2.2.2.2.1 y3.2.1.2.2.2.2.2.2.2.2.2.1 y3.2.1.2.2.2.2.2.2.2.2.2.2.1 y3.2.2.1 y3.2.2.2.1).bind fun y36=>
 cond (room (((List.length y36.2.1.2.2.2.2.2.2.2.2.2.2.1)+(List.length ((y36.1.1.1,(y36.1.1.2.1,(y36.1.1.2.2.1,(y3.1.1,(y36.1.1.2.2.2.2.1,y36.1.1.2.2.2.2.2))))):: [])))*73)) (some ((0,()),((y36.2.1.1,(y36.2.1.2.1,(y36.2.1.2.2.1,(y36.2.1.2.2.2.1,(y36.2.1.2.2.2.2.1,(y36.2.1.2.2.2.2.2.1,(y36.2.1.2.2.2.2.2.2.1,((),((),(y36.2.1.2.2.2.2.2.2.2.2.2.1,((y36.2.1.2.2.2.2.2.2.2.2.2.2.1++((y36.1.1.1,(y36.1.1.2.1,(y36.1.1.2.2.1,(y3.1.1,(y36.1.1.2.2.2.2.1,y36.1.1.2.2.2.2.2))))):: [])),()))))))))))),(y36.2.2.1,(y36.2.2.2.1,()))))) none)<|(pI n (x0.1,(x0.2.1,(x0.2.2.1,(x0.2.2.2.1,x0.2.2.2.2)))) key y3.2.1.1 y3.2.1.2.1 y3.2.1.2.2.1 y3.2.1.2.2.2.1 y3.2.1.2.2.2.2.1 y3.2.1.2.2.2.2.2.1 y3.2.1.2.2.2.2.2.2.1 y3.2.1.2.2.2.2.2.2.2.2.2.1 y3.2.1.2.2.2.2.2.2.2.2.2.2.1 y3.2.2.1 y3.2.2.2.1).bind fun y37=>
 cond (room (((List.length y37.2.1.2.2.2.2.2.2.2.2.2.2.1)+(List.length ((y37.1.1.1,(y37.1.1.2.1,(y37.1.1.2.2.1,(y3.1.1,(y37.1.1.2.2.2.2.1,y37.1.1.2.2.2.2.2))))):: [])))*73)) (some ((0,()),((y37.2.1.1,(y37.2.1.2.1,(y37.2.1.2.2.1,(y37.2.1.2.2.2.1,(y37.2.1.2.2.2.2.1,(y37.2.1.2.2.2.2.2.1,(y37.2.1.2.2.2.2.2.2.1,((),((),(y37.2.1.2.2.2.2.2.2.2.2.2.1,((y37.2.1.2.2.2.2.2.2.2.2.2.2.1++((y37.1.1.1,(y37.1.1.2.1,(y37.1.1.2.2.1,(y3.1.1,(y37.1.1.2.2.2.2.1,y37.1.1.2.2.2.2.2))))):: [])),()))))))))))),(y37.2.2.1,(y37.2.2.2.1,()))))) none) none
noncomputable def N8 (Fr:Nat->Int->Bool->Int->bL->be->Int->Int->Int->Bool->Bool->Int->gQ->i8->mH->Option d9):du:=jT 12 (fun n x=>zh Fr n x.1.1 x.1.2.1 x.1.2.2.1 x.2.1.1 x.2.1.2.1 x.2.1.2.2.1 x.2.1.2.2.2.1 x.2.1.2.2.2.2.1 x.2.1.2.2.2.2.2.1 x.2.1.2.2.2.2.2.2.1 x.2.1.2.2.2.2.2.2.2.2.2.1 x.2.1.2.2.2.2.2.2.2.2.2.2.1 x.2.2.1 x.2.2.2.1)
theorem LB (Fr:Nat->Int->Bool->Int->bL->be->Int->Int->Int->Bool->Bool->Int->gQ->i8->mH->Option d9) (hFr:∀ m,cC Tryz.prog hint s8 (AA Fr) m) (n:Nat):cC Tryz.prog hint s8 (N8 Fr) n:=UI n ((ab.nil.fn xM).loop (Mv Fr hFr) tZ) ((eb.nil.pz EH).pz FL)
noncomputable def jr:Nat->Nat->Int->Bool->Int->bL->be->Int->Int->Int->Bool->Bool->Int->gQ->i8->mH->Option d9
 |0,_,_,_,_,_,_,_,_,_,_,_,_,_,_,_=>none
 |d+1,n,i,key,deep,c64_0,c64_1,c64_2,c64_3,c64_4,c64_5,c64_6,c64_9,c64_10,m65,m66=>cond (Nat.ble 12 n) (zh (jr d) (n - 12) i key deep c64_0 c64_1 c64_2 c64_3 c64_4 c64_5 c64_6 c64_9 c64_10 m65 m66) none
noncomputable def Pa (n:Nat) (i:Int) (key:Bool) (deep:Int) (c64_0:bL) (c64_1:be) (c64_2:Int) (c64_3:Int) (c64_4:Int) (c64_5:Bool) (c64_6:Bool) (c64_9:Int) (c64_10:gQ) (m65:i8) (m66:mH):Option d9:=jr n n i key deep c64_0 c64_1 c64_2 c64_3 c64_4 c64_5 c64_6 c64_9 c64_10 m65 m66
noncomputable def OP:du:=jT 0 (fun n x=>let y:=x.2.1.2.2.2;let z:=y.2.2;Pa n x.1.1 x.1.2.1 x.1.2.2.1 x.2.1.1 x.2.1.2.1 x.2.1.2.2.1 y.1 y.2.1 z.1 z.2.1 z.2.2.2.2.1 z.2.2.2.2.2.1 x.2.2.1 x.2.2.2.1)
theorem P2 (n:Nat):cC Tryz.prog hint s8 OP n:=
 cC.diag (it:=jT 0 fun _ _=>none) (fun d n x=>jr d n x.1.1 x.1.2.1 x.1.2.2.1 x.2.1.1 x.2.1.2.1 x.2.1.2.2.1 x.2.1.2.2.2.1 x.2.1.2.2.2.2.1 x.2.1.2.2.2.2.2.1 x.2.1.2.2.2.2.2.2.1 x.2.1.2.2.2.2.2.2.2.2.2.1 x.2.1.2.2.2.2.2.2.2.2.2.2.1 x.2.2.1 x.2.2.2.1) (cC.GF (it:=jT 0 fun _ _=>none) (D:=12) (fun G n x=>zh (fun n i key deep c64_0 c64_1 c64_2 c64_3 c64_4 c64_5 c64_6 c64_9 c64_10 m65 m66=>G n ((i,(key,(deep,()))),((c64_0,(c64_1,(c64_2,(c64_3,(c64_4,(c64_5,(c64_6,((),((),(c64_9,(c64_10,()))))))))))),(m65,(m66,()))))) n x.1.1 x.1.2.1 x.1.2.2.1 x.2.1.1 x.2.1.2.1 x.2.1.2.2.1 x.2.1.2.2.2.1 x.2.1.2.2.2.2.1 x.2.1.2.2.2.2.2.1 x.2.1.2.2.2.2.2.2.1 x.2.1.2.2.2.2.2.2.2.2.2.1 x.2.1.2.2.2.2.2.2.2.2.2.2.1 x.2.2.1 x.2.2.2.1) _ (fun _ _=>rfl) (fun _ _ _=>rfl) (fun G h n=>LB (fun n i key deep c64_0 c64_1 c64_2 c64_3 c64_4 c64_5 c64_6 c64_9 c64_10 m65 m66=>G n ((i,(key,(deep,()))),((c64_0,(c64_1,(c64_2,(c64_3,(c64_4,(c64_5,(c64_6,((),((),(c64_9,(c64_10,()))))))))))),(m65,(m66,()))))) h n)) n
noncomputable def gP:Tm:=⟨[(0,.one (.fix (TV.mo 73))),EQ 2 71,(4,.one (.fix (TV.mp 74))),FS 5 78 .no],[(66,sm 69 70 79),(68,ut),(69,.map 3 false false am am false),(70,.map 3 false false am .str false),(71,ol),(73,.loop 18 Go.LoopState.ready (Option.none) (k8 Tryz.prog hint 18) [EQ 3 68] (aJ Tryz.prog 18 4).1 (aJ Tryz.prog 18 4).2.1 (aJ Tryz.prog 18 4).2.2),(74,.map 3 false false am .bool false)],78,80,3017⟩
noncomputable def nY:Tm:=⟨[(0,.one (.fix (TV.mo 73))),EQ 2 71,(4,.one (.fix (TV.mp 74))),FS 5 78 .no,(33,.one (.aB am)),(34,ac),(35,ac)],[(66,sm 69 70 79),(68,ut),(69,.map 3 false false am am false),(70,.map 3 false false am .str false),(71,ol),(73,.loop 18 Go.LoopState.ready (Option.none) (k8 Tryz.prog hint 18) [EQ 3 68] (aJ Tryz.prog 18 4).1 (aJ Tryz.prog 18 4).2.1 (aJ Tryz.prog 18 4).2.2),(74,.map 3 false false am .bool false)],78,80,3017⟩
noncomputable def iK:Nat->be->be->Int->Int->bL->be->Int->Int->Int->Bool->Bool->Int->gQ->i8->mH->bL->be->(List lw)->Option ((Unit×(Unit×(Unit×d6)))×(bi×(d7×(i8×(mH×(m4×(d7×((List lw)×Unit))))))))
 |0,_,_,_,_,_,_,_,_,_,_,_,_,_,_,_,_,_,_=>none
 |n+1,t5,t33,t34,t35,c66_0,c66_1,c66_2,c66_3,c66_4,c66_5,c66_6,c66_9,c66_10,m69,m70,c71_0,c71_1,m74=>
 cond (aD t35 t34) (cond (ak 0 t35) ((t33[(Int.toNat t35)]?).bind fun x23=>
 cond (!(aW hIn m74 x23 false)) (cond (room (((List.length t5)+(List.length (x23::([]:List Int))))*9)) (iK n (t5++(x23::([]:List Int))) t33 t34 (zao (t35+1)) c66_0 c66_1 c66_2 c66_3 c66_4 c66_5 c66_6 c66_9 c66_10 (de hIn m69 x23 (zao ((aW hIn m69 x23 0)+1))) m70 c71_0 c71_1 (de hIn m74 x23 true)) none)<|iK n t5 t33 t34 (zao (t35+1)) c66_0 c66_1 c66_2 c66_3 c66_4 c66_5 c66_6 c66_9 c66_10 (de hIn m69 x23 (zao ((aW hIn m69 x23 0)+1))) m70 c71_0 c71_1 m74) none)<|some (((),((),((),(t5,())))),((c66_0,(c66_1,(c66_2,(c66_3,(c66_4,(c66_5,(c66_6,((),((),(c66_9,(c66_10,()))))))))))),(((),()),(m69,(m70,((c71_0,(c71_1,())),(((),()),(m74,()))))))))
noncomputable def rQ:bV:=⟨56,6,none,nY,[(.exit 2,gP)],1,fun n x=>let y:=x.2.1.2.2.2;let z:=x.1.2.2.2;let w:=x.2.2.2;let v:=y.2.2;iK n z.1 z.2.1 z.2.2.1 z.2.2.2.1 x.2.1.1 x.2.1.2.1 x.2.1.2.2.1 y.1 y.2.1 v.1 v.2.1 v.2.2.2.2.1 v.2.2.2.2.2.1 w.1 w.2.1 w.2.2.1.1 w.2.2.1.2.1 w.2.2.2.2.1,[],[68,71]⟩
theorem nS:gP.ok Tryz.prog hint:=by
 intro p hp;simp only [gP,List.mem_cons,List.not_mem_nil,or_false] at hp;rcases hp with rfl |rfl |rfl |rfl |rfl |rfl |rfl
 .trivial
 .trivial
 .trivial
 .trivial
 .trivial
 .exact oe.of (by kernel_rfl) (by kernel_rfl)
 .trivial
theorem nq:nY.ok Tryz.prog hint:=by
 intro p hp;simp only [nY,List.mem_cons,List.not_mem_nil,or_false] at hp;rcases hp with rfl |rfl |rfl |rfl |rfl |rfl |rfl
 .trivial
 .trivial
 .trivial
 .trivial
 .trivial
 .exact oe.of (by kernel_rfl) (by kernel_rfl)
 .trivial
theorem Cn:∀ n,cA Tryz.prog hint s8 rQ n:=
 cA.of (hk:=fun Z=>(dq.mk [] []).hk Z) (sh:=s8) (eH.of (by kernel_rfl)) nq ⟨⟨nS,zal _,zal _⟩,trivial⟩ (fun m=>ab.eR ab.nil m)
  (fun _=>by kernel_rfl) (fun m x=>by kernel_rfl)
noncomputable def gH:Tm:=⟨[],[(66,sm 69 70 76),(68,ut),(69,.map 3 false false am am false),(70,.map 3 false false am .str false),(71,ol),(73,.loop 18 Go.LoopState.ready (Option.none) (k8 Tryz.prog hint 18) [EQ 3 68] (aJ Tryz.prog 18 4).1 (aJ Tryz.prog 18 4).2.1 (aJ Tryz.prog 18 4).2.2),(74,.map 3 false false am .bool false)],76,77,2016⟩
noncomputable def oa:Tm:=⟨[(0,.one (.fix (TV.mo 73))),EQ 2 71,(4,.one (.fix (TV.mp 74))),FS 5 76 .no],[(66,sm 69 70 77),(68,ut),(69,.map 3 false false am am false),(70,.map 3 false false am .str false),(71,ol),(73,.loop 18 Go.LoopState.ready (Option.none) (k8 Tryz.prog hint 18) [EQ 3 68] (aJ Tryz.prog 18 4).1 (aJ Tryz.prog 18 4).2.1 (aJ Tryz.prog 18 4).2.2),(74,.map 3 false false am .bool false)],76,78,2016⟩
noncomputable def iM:Nat->be->bL->be->Int->Int->Int->Bool->Bool->Int->gQ->i8->mH->bL->be->(List lw)->Option (Unit×(bi×(d7×(i8×(mH×(m4×(d7×((List lw)×Unit))))))))
 |0,_,_,_,_,_,_,_,_,_,_,_,_,_,_,_=>none
 |n+1,t5,c66_0,c66_1,c66_2,c66_3,c66_4,c66_5,c66_6,c66_9,c66_10,m69,m70,c71_0,c71_1,m74=>
 cond (aD 0 (len t5)) (cond ((ak 0 (zao ((len t5) - 1))) &&(aD (zao ((len t5) - 1)) (len t5))) ((t5[(Int.toNat (zao ((len t5) - 1)))]?).bind fun x28=>
 cond ((ak 0 (zao ((len t5) - 1))) &&(ak (zao ((len t5) - 1)) (len t5))) (cond (ak 0 x28) ((c71_0[(Int.toNat x28)]?).bind fun x29=>
 (iK (n+1) (List.take ((Int.toNat (zao ((len t5) - 1))) - 0) (List.drop 0 t5)) x29.2.2.2.1 (len x29.2.2.2.1) 0 c66_0 c66_1 c66_2 c66_3 c66_4 c66_5 c66_6 c66_9 c66_10 m69 m70 c71_0 c71_1 m74).bind fun y30=>
 iM n y30.1.2.2.2.1 y30.2.1.1 y30.2.1.2.1 y30.2.1.2.2.1 y30.2.1.2.2.2.1 y30.2.1.2.2.2.2.1 y30.2.1.2.2.2.2.2.1 y30.2.1.2.2.2.2.2.2.1 y30.2.1.2.2.2.2.2.2.2.2.2.1 y30.2.1.2.2.2.2.2.2.2.2.2.2.1 y30.2.2.2.1 y30.2.2.2.2.1 c71_0 c71_1 y30.2.2.2.2.2.2.2.1) none) none) none)<|some ((),((c66_0,(c66_1,(c66_2,(c66_3,(c66_4,(c66_5,(c66_6,((),((),(c66_9,(c66_10,()))))))))))),(((),()),(m69,(m70,((c71_0,(c71_1,())),(((),()),(m74,()))))))))
noncomputable def A0:bV:=⟨56,2,none,oa,[(.exit 0,gH)],1,fun n x=>let y:=x.2.1.2.2.2;let z:=x.2.2.2;let w:=y.2.2;iM n x.1.2.2.2.1 x.2.1.1 x.2.1.2.1 x.2.1.2.2.1 y.1 y.2.1 w.1 w.2.1 w.2.2.2.2.1 w.2.2.2.2.2.1 z.1 z.2.1 z.2.2.1.1 z.2.2.1.2.1 z.2.2.2.2.1,[65,72],[68,71]⟩
theorem oh:gH.ok Tryz.prog hint:=by
 intro p hp;simp only [gH,List.mem_cons,List.not_mem_nil,or_false] at hp;rcases hp with rfl |rfl |rfl |rfl |rfl |rfl |rfl
 .trivial
 .trivial
 .trivial
 .trivial
 .trivial
 .exact oe.of (by kernel_rfl) (by kernel_rfl)
 .trivial
theorem mS:oa.ok Tryz.prog hint:=by
 intro p hp;simp only [oa,List.mem_cons,List.not_mem_nil,or_false] at hp;rcases hp with rfl |rfl |rfl |rfl |rfl |rfl |rfl
 .trivial
 .trivial
 .trivial
 .trivial
 .trivial
 .exact oe.of (by kernel_rfl) (by kernel_rfl)
 .trivial
theorem CW:∀ n,cA Tryz.prog hint s8 A0 n:=
 cA.of (hk:=fun Z=>(dq.mk [] [rQ]).hk Z) (sh:=s8) (eH.of (by kernel_rfl)) mS ⟨⟨oh,zal _,zal _⟩,trivial⟩ (fun m=>ab.eR (ab.nil.loop Cn nq) m)
  (fun _=>by kernel_rfl) (fun m x=>by kernel_rfl)
noncomputable def wA:Nat->be->Int->Int->Int->Int->Int->Bool->Bool->bL->be->Int->Int->Int->Bool->Bool->Int->gQ->Option ((d7×((Int×(Int×(Int×(Bool×bv))))×(bi×Unit)))⊕((Unit×dg)×((Int×(Int×(Int×(Bool×bv))))×(bi×Unit))))
 |0,_,_,_,_,_,_,_,_,_,_,_,_,_,_,_,_,_=>none
 |n+1,t18,t19,t20,c65_0,c65_1,c65_2,c65_3,c65_4,c66_0,c66_1,c66_2,c66_3,c66_4,c66_5,c66_6,c66_9,c66_10=>
 cond (aD t20 t19) (cond (ak 0 t20) ((t18[(Int.toNat t20)]?).bind fun x40=>
 cond c65_4 ((iM (n+1) (x40::([]:List Int)) c66_0 c66_1 c66_2 c66_3 c66_4 c66_5 c66_6 c66_9 c66_10 (de hIn [] x40 1) [] c66_0 c66_1 (de hIn [] x40 true)).bind fun y41=>
 cond (room (((List.length y41.2.1.2.2.2.2.2.2.2.2.2.2.1)+(List.length (((1:Int),(([]:List UInt8),(([]:List UInt8),(([]:List UInt8),((0:Int),true))))):: [])))*73)) ((Pa (n+2) x40 false 0 y41.2.1.1 y41.2.1.2.1 y41.2.1.2.2.1 y41.2.1.2.2.2.1 y41.2.1.2.2.2.2.1 y41.2.1.2.2.2.2.2.1 y41.2.1.2.2.2.2.2.2.1 y41.2.1.2.2.2.2.2.2.2.2.2.1 (y41.2.1.2.2.2.2.2.2.2.2.2.2.1++((1,(([]:List UInt8),(([]:List UInt8),(([]:List UInt8),(0,true))))):: [])) y41.2.2.2.1 y41.2.2.2.2.1).bind fun y42=>
 cond (room (((List.length y42.2.1.2.2.2.2.2.2.2.2.2.2.1)+(List.length (((2:Int),(([]:List UInt8),(([]:List UInt8),(([]:List UInt8),((0:Int),false))))):: [])))*73)) (cond (y42.1.1 !=0) (some (.inr (((),(y42.1.1,())),((c65_0,(c65_1,(c65_2,(c65_3,(c65_4,()))))),((y42.2.1.1,(y42.2.1.2.1,(y42.2.1.2.2.1,(y42.2.1.2.2.2.1,(y42.2.1.2.2.2.2.1,(y42.2.1.2.2.2.2.2.1,(y42.2.1.2.2.2.2.2.2.1,((),((),(y42.2.1.2.2.2.2.2.2.2.2.2.1,((y42.2.1.2.2.2.2.2.2.2.2.2.2.1++((2,(([]:List UInt8),(([]:List UInt8),(([]:List UInt8),(0,false))))):: [])),()))))))))))),())))))<|wA n t18 t19 (zao (t20+1)) c65_0 c65_1 c65_2 c65_3 c65_4 y42.2.1.1 y42.2.1.2.1 y42.2.1.2.2.1 y42.2.1.2.2.2.1 y42.2.1.2.2.2.2.1 y42.2.1.2.2.2.2.2.1 y42.2.1.2.2.2.2.2.2.1 y42.2.1.2.2.2.2.2.2.2.2.2.1 (y42.2.1.2.2.2.2.2.2.2.2.2.2.1++((2,(([]:List UInt8),(([]:List UInt8),(([]:List UInt8),(0,false))))):: []))) none) none)<|(iM (n+1) (x40::([]:List Int)) c66_0 c66_1 c66_2 c66_3 c66_4 c66_5 c66_6 c66_9 c66_10 (de hIn [] x40 1) [] c66_0 c66_1 (de hIn [] x40 true)).bind fun y43=>
 cond (room (((List.length y43.2.1.2.2.2.2.2.2.2.2.2.2.1)+(List.length (((1:Int),(([]:List UInt8),(([]:List UInt8),(([]:List UInt8),((0:Int),(aD (0:Int) t20)))))):: [])))*73)) ((Pa (n+2) x40 false 0 y43.2.1.1 y43.2.1.2.1 y43.2.1.2.2.1 y43.2.1.2.2.2.1 y43.2.1.2.2.2.2.1 y43.2.1.2.2.2.2.2.1 y43.2.1.2.2.2.2.2.2.1 y43.2.1.2.2.2.2.2.2.2.2.2.1 (y43.2.1.2.2.2.2.2.2.2.2.2.2.1++((1,(([]:List UInt8),(([]:List UInt8),(([]:List UInt8),(0,(aD 0 t20)))))):: [])) y43.2.2.2.1 y43.2.2.2.2.1).bind fun y44=>
 cond (room (((List.length y44.2.1.2.2.2.2.2.2.2.2.2.2.1)+(List.length (((2:Int),(([]:List UInt8),(([]:List UInt8),(([]:List UInt8),((0:Int),false))))):: [])))*73)) (cond (y44.1.1 !=0) (some (.inr (((),(y44.1.1,())),((c65_0,(c65_1,(c65_2,(c65_3,(c65_4,()))))),((y44.2.1.1,(y44.2.1.2.1,(y44.2.1.2.2.1,(y44.2.1.2.2.2.1,(y44.2.1.2.2.2.2.1,(y44.2.1.2.2.2.2.2.1,(y44.2.1.2.2.2.2.2.2.1,((),((),(y44.2.1.2.2.2.2.2.2.2.2.2.1,((y44.2.1.2.2.2.2.2.2.2.2.2.2.1++((2,(([]:List UInt8),(([]:List UInt8),(([]:List UInt8),(0,false))))):: [])),()))))))))))),())))))<|wA n t18 t19 (zao (t20+1)) c65_0 c65_1 c65_2 c65_3 c65_4 y44.2.1.1 y44.2.1.2.1 y44.2.1.2.2.1 y44.2.1.2.2.2.1 y44.2.1.2.2.2.2.1 y44.2.1.2.2.2.2.2.1 y44.2.1.2.2.2.2.2.2.1 y44.2.1.2.2.2.2.2.2.2.2.2.1 (y44.2.1.2.2.2.2.2.2.2.2.2.2.1++((2,(([]:List UInt8),(([]:List UInt8),(([]:List UInt8),(0,false))))):: []))) none) none) none)<|some (.inl (((),()),((c65_0,(c65_1,(c65_2,(c65_3,(c65_4,()))))),((c66_0,(c66_1,(c66_2,(c66_3,(c66_4,(c66_5,(c66_6,((),((),(c66_9,(c66_10,()))))))))))),()))))
theorem OE:LZ ⟨9,5,none,⟨[EQ 3 65,EQ 6 66,(18,.one (.aB am)),(19,ac),(20,ac)],[(65,v6),(66,wd)],67,68,1003⟩,[(.exit 0,⟨[EQ 6 66],[(65,v6),(66,wd)],67,68,1003⟩),(.ret,⟨[(4,.one (m7)),(5,ac)],[(65,v6),(66,wd)],67,68,1003⟩)],3,fun n x=>let y:=x.2.2.1.2.2;let z:=x.2.1.2;let w:=y.2.2.2;let v:=x.1.2.2;wA n v.1 v.2.1 v.2.2.1 x.2.1.1 z.1 z.2.1 z.2.2.1 z.2.2.2.1 x.2.2.1.1 x.2.2.1.2.1 y.1 y.2.1 y.2.2.1 w.1 w.2.1 w.2.2.2.2.1 w.2.2.2.2.2.1,[64],[65]⟩:=UP (ab.nil.loop CW mS) (eb.nil.pz P2)
noncomputable def events (n:Nat) (g:ip) (o:(Int×m6)):Option (gQ×dg):=
 (right n (g.1,g.2)).bind fun y0=>
 cond (!y0.1) (some ([],1,()))<|(wA (n+5) g.2 (len g.2) 0 o.1 o.2.1 o.2.2.1 o.2.2.2.1 o.2.2.2.2 g.1 g.2 o.1 o.2.1 o.2.2.1 o.2.2.2.1 o.2.2.2.2 0 []).bind fun y45=>
 match y45 with
 | .inl y46=>
 some (y46.2.2.1.2.2.2.2.2.2.2.2.2.2.1,0,())
 | .inr y47=>
 some ([],y47.1.2.1,())
theorem yu:FZ ⟨9,[(true,(.cons (.bH bT) (.bH am))),(true,(.cons am (.cons am (.cons am (.cons .bool .bool)))))],[(false,(.bH ko)),(false,am)],8,fun n x=>events n x.1 x.2.1⟩:=dv ((ab.nil.fn K6).lp OE)
noncomputable def tI (n:Nat) (s:List UInt8):Option bv:=
 (C2 n s).bind fun y0=>
 (cond y0.2.1 (some (ak (len s) 262144))<|some false).bind fun b2=>
 some (b2,())
theorem Eu:FZ ⟨75,[(false,.str)],[(false,.bool)],4,fun n x=>tI n x.1⟩:=dv (ab.nil.fn CZ)
noncomputable def xi:Nat->Int->Int->Int->ce->ce->be->Bool->Option ((d7×lc)⊕(bv×lc))
 |0,_,_,_,_,_,_,_=>none
 |n+1,t1,t5,c64_0,c64_1,c64_2,c64_3,c64_4=>
 cond (aD t5 (len c64_3)) (cond (ak 0 t5) ((c64_3[(Int.toNat t5)]?).bind fun x5=>
 cond (aD x5 0) (some (.inr ((false,()),((c64_0,(c64_1,(c64_2,(c64_3,(c64_4,()))))),()))))<|cond (ak 0 t5) ((c64_3[(Int.toNat t5)]?).bind fun x6=>
 cond (ak t1 x6) (some (.inr ((false,()),((c64_0,(c64_1,(c64_2,(c64_3,(c64_4,()))))),()))))<|xi n t1 (zao (t5+1)) c64_0 c64_1 c64_2 c64_3 c64_4) none) none)<|some (.inl (((),()),((c64_0,(c64_1,(c64_2,(c64_3,(c64_4,()))))),())))
theorem Ki:LZ ⟨51,4,none,⟨[(1,ac),EQ 2 64,(5,ac)],[(64,ul)],65,65,1001⟩,[(.exit 0,⟨[EQ 2 64],[(64,ul)],65,65,1001⟩),(.ret,⟨[(4,.one (.bool))],[(64,ul)],65,65,1001⟩)],0,fun n x=>let y:=x.2.1.2;xi n x.1.1 x.1.2.2.1 x.2.1.1 y.1 y.2.1 y.2.2.1 y.2.2.2.1,[],[64]⟩:=fG ab.nil
noncomputable def Gr (n:Nat) (x:(Int×ci)) (m:Int):Option bv:=
 (uO n x.2.1).bind fun y0=>
 cond (!y0.1) (some (false,()))<|cond (x.2.1==([33]:List UInt8)) (some (false,()))<|cond (aD 1000 (len x.2.1)) (some (false,()))<|(xi (n+5) m 0 x.1 x.2.1 x.2.2.1 x.2.2.2.1 x.2.2.2.2).bind fun y7=>
 match y7 with
 | .inl _=>
 cond (x.1==1) (cond ((len x.2.2.2.1)==0) ((tI n x.2.2.1).bind fun y10=>
 some (y10.1,()))<|some (false,()))<|cond (x.1==2) ((cond (x.2.2.1==([]:List UInt8)) (some (!x.2.2.2.2))<|some false).bind fun b12=>
 some (b12,()))<|cond (x.1==3) (cond (x.2.2.1==([]:List UInt8)) (cond (!x.2.2.2.2) (some (((Int.tmod (len x.2.2.2.1) 2)==0),()))<|some (false,()))<|some (false,()))<|some (false,())
 | .inr y9=>
 some (y9.1.1,())
theorem NY:FZ ⟨51,[(true,bT),(false,am)],[(false,.bool)],5,fun n x=>Gr n x.1 x.2.1⟩:=dv (((ab.nil.fn ID).lp Ki).fn Eu)
noncomputable def wW:Nat->Int->Int->Int->bL->be->Option (((Unit×dg)×gt)⊕(bv×gt))
 |0,_,_,_,_,_=>none
 |n+1,t3,t4,t5,c64_0,c64_1=>
 cond (aD t5 t3) (cond (ak 0 t5) ((c64_0[(Int.toNat t5)]?).bind fun x6=>
 cond (aD 20000 (zao (t4+(len x6.2.2.2.1)))) (some (.inr ((false,()),((c64_0,(c64_1,())),()))))<|cond (ak 0 t5) ((c64_0[(Int.toNat t5)]?).bind fun x7=>
 (Gr (n+1) (x7.1,(x7.2.1,(x7.2.2.1,(x7.2.2.2.1,x7.2.2.2.2)))) t3).bind fun y8=>
 cond (!y8.1) (some (.inr ((false,()),((c64_0,(c64_1,())),()))))<|wW n t3 (zao (t4+(len x6.2.2.2.1))) (zao (t5+1)) c64_0 c64_1) none) none)<|some (.inl (((),(t3,())),((c64_0,(c64_1,())),())))
theorem La:LZ ⟨28,6,none,⟨[EQ 1 64,(3,ac),(4,ac),(5,ac)],[(64,ol)],65,65,1001⟩,[(.exit 0,⟨[EQ 1 64,(3,ac)],[(64,ol)],65,65,1001⟩),(.ret,⟨[(2,.one (.bool))],[(64,ol)],65,65,1001⟩)],6,fun n x=>wW n x.1.2.1 x.1.2.2.1 x.1.2.2.2.1 x.2.1.1 x.2.1.2.1,[],[64]⟩:=fG (ab.nil.fn NY)
noncomputable def qT:Nat->Int->Int->bL->be->Option ((Unit×gt)⊕(bv×gt))
 |0,_,_,_,_=>none
 |n+1,t3,t6,c64_0,c64_1=>
 cond (aD t6 (len c64_1)) (cond (ak 0 t6) ((c64_1[(Int.toNat t6)]?).bind fun x16=>
 cond (aD x16 0) (some (.inr ((false,()),((c64_0,(c64_1,())),()))))<|cond (ak 0 t6) ((c64_1[(Int.toNat t6)]?).bind fun x17=>
 cond (ak t3 x17) (some (.inr ((false,()),((c64_0,(c64_1,())),()))))<|qT n t3 (zao (t6+1)) c64_0 c64_1) none) none)<|some (.inl ((),((c64_0,(c64_1,())),())))
theorem H7:LZ ⟨28,12,none,⟨[EQ 1 64,(3,ac),(6,ac)],[(64,ol)],65,65,2002⟩,[(.exit 2,⟨[],[(64,ol)],65,65,2002⟩),(.ret,⟨[(2,.one (.bool))],[(64,ol)],65,65,2002⟩)],0,fun n x=>qT n x.1.2.1 x.1.2.2.1 x.2.1.1 x.2.1.2.1,[],[64]⟩:=fG ab.nil
noncomputable def fh (n:Nat) (g:ip):Option bv:=
 cond (aD 20000 (len g.1)) (some (false,()))<|cond (aD 20000 (len g.2)) (some (false,()))<|(wW n (len g.1) 0 0 g.1 g.2).bind fun y9=>
 match y9 with
 | .inl y10=>
 (qT (n+6) y10.1.2.1 0 g.1 g.2).bind fun y18=>
 match y18 with
  | .inl _=>
  some (true,())
  | .inr y20=>
  some (y20.1.1,())
 | .inr y11=>
 some (y11.1.1,())
theorem yb:FZ ⟨28,[(true,(.cons (.bH bT) (.bH am)))],[(false,.bool)],6,fun n x=>fh n x.1⟩:=dv ((ab.nil.lp La).lp H7)
noncomputable def wX:Nat->be->Int->Option ((be×dg)×Unit)
 |0,_,_=>none
 |n+1,t0,t3=>
 (cond (aD 1 t3) (cond (ak 0 (zao (t3 - 1))) ((t0[(Int.toNat (zao (t3 - 1)))]?).bind fun x7=>
 some (x7==0)) none)<|some false).bind fun b8=>
 cond b8 (wX n t0 (zao (t3 - 1)))<|some ((t0,(t3,())),())
theorem Np:LZ ⟨92,2,none,⟨[(0,.one (.aB am)),(3,ac)],[],64,64,1000⟩,[(.exit 0,⟨[(0,.one (.aB am)),(3,ac)],[],64,64,1000⟩)],0,fun n x=>wX n x.1.1 x.1.2.1,[],[]⟩:=fG ab.nil
noncomputable def yg:Nat->be->Int->ce->Int->Option (jp×Unit)
 |0,_,_,_,_=>none
 |n+1,t0,t3,t4,t5=>
 cond (aD t5 t3) (cond (ak 0 t5) ((t0[(Int.toNat t5)]?).bind fun x14=>
 cond ((ak 0 (zao ((zao (t3 - 1)) - t5))) &&(aD (zao ((zao (t3 - 1)) - t5)) (len t4))) ((t4[(Int.toNat (zao ((zao (t3 - 1)) - t5)))]?).bind fun _=>
 yg n t0 t3 (List.set t4 (Int.toNat (zao ((zao (t3 - 1)) - t5))) (UInt8.ofNat (Int.toNat (IntKind.wrap Go.IntKind.u8 (zao (48+x14)))))) (zao (t5+1))) none) none)<|some ((t4,()),())
theorem K9:LZ ⟨92,6,none,⟨[(0,.one (.aB am)),(3,ac),(4,.one (.all 65 5 .byte .no)),(5,ac)],[],65,66,2002⟩,[(.exit 2,⟨[(4,.one (.all 65 5 .byte .no))],[],65,66,2002⟩)],0,fun n x=>yg n x.1.1 x.1.2.1 x.1.2.2.1 x.1.2.2.2.1,[],[]⟩:=fG ab.nil
noncomputable def lL (n:Nat) (l:List Int):Option jp:=
 (wX (n+1) l (len l)).bind fun y9=>
 cond (((ak 0 y9.1.2.1) &&(ak y9.1.2.1 y9.1.2.1)) &&(ak (y9.1.2.1*2) 1099511627776)) ((yg (n+1) y9.1.1 y9.1.2.1 (List.replicate (Int.toNat y9.1.2.1) (0:UInt8)) 0).bind fun y16=>
 some (y16.1.1,())) none
theorem Dj:FZ ⟨92,[(false,(.bH am))],[(false,.str)],1,fun n x=>lL n x.1⟩:=dv ((ab.nil.lp Np).lp K9)
noncomputable def xz:Nat->be->Int->Int->be->Int->Option ((Int×d6)×Unit)
 |0,_,_,_,_,_=>none
 |n+1,t0,t1,t2,t7,t8=>
 cond (aD t8 (len t0)) (cond (ak 0 t8) ((t0[(Int.toNat t8)]?).bind fun x3=>
 cond (room (((List.length t7)+(List.length ((Int.tmod (zao (t2+(zao (x3*t1)))) 10)::([]:List Int))))*9)) (xz n t0 t1 (zao (Int.tdiv (zao (t2+(zao (x3*t1)))) 10)) (t7++((Int.tmod (zao (t2+(zao (x3*t1)))) 10)::([]:List Int))) (zao (t8+1))) none) none)<|some ((t2,(t7,())),())
theorem KG:LZ ⟨93,3,none,⟨[(0,.one (.aB am)),(1,ac),(2,ac),FS 7 64 .ex,(8,ac)],[],64,65,1000⟩,[(.exit 0,⟨[(2,ac),FS 7 64 .ex],[],64,65,1000⟩)],0,fun n x=>let y:=x.1.2;xz n x.1.1 y.1 y.2.1 y.2.2.1 y.2.2.2.1,[],[]⟩:=fG ab.nil
noncomputable def sD:Nat->Int->be->Option (d6×Unit)
 |0,_,_=>none
 |n+1,t2,t7=>
 cond (aD 0 t2) (cond (room (((List.length t7)+(List.length ((Int.tmod t2 10)::([]:List Int))))*9)) (sD n (zao (Int.tdiv t2 10)) (t7++((Int.tmod t2 10)::([]:List Int)))) none)<|some ((t7,()),())
theorem KQ:LZ ⟨93,8,none,⟨[(2,ac),FS 7 65 .ex],[],65,66,2001⟩,[(.exit 2,⟨[FS 7 65 .ex],[],65,66,2001⟩)],0,fun n x=>sD n x.1.1 x.1.2.1,[],[]⟩:=fG ab.nil
noncomputable def AH (n:Nat) (l:List Int) (k:Int) (more:Int):Option d6:=
 (xz (n+1) l k more ([]:List Int) 0).bind fun y4=>
 (sD (n+1) y4.1.1 y4.1.2.1).bind fun y5=>
 cond ((len y5.1.1)==0) (some ((0::([]:List Int)),()))<|some (y5.1.1,())
theorem IT:FZ ⟨93,[(false,(.bH am)),(false,am),(false,am)],[(false,(.bH am))],1,fun n x=>AH n x.1 x.2.1 x.2.2.1⟩:=dv ((ab.nil.lp KG).lp KQ)
noncomputable def yw:Nat->ce->Int->be->Int->Option ((d6×Unit)⊕(d7×Unit))
 |0,_,_,_,_=>none
 |n+1,t0,t1,t5,t6=>
 cond (aD t6 (len t0)) (cond (ak 0 t6) ((t0[(Int.toNat t6)]?).bind fun x14=>
 (IM (n+1) (zao (ub x14))).bind fun y15=>
 (cond (aD y15.1 0) (some true)<|some (ak t1 y15.1)).bind fun b17=>
 cond b17 (some (.inr (((),()),())))<|cond (room (((List.length t5)+(List.length (y15.1::([]:List Int))))*9)) (yw n t0 t1 (t5++(y15.1::([]:List Int))) (zao (t6+1))) none) none)<|some (.inl ((t5,()),()))
theorem KB:LZ ⟨91,5,none,⟨[(0,.one (.str)),(1,ac),FS 5 64 .ex,(6,ac)],[],64,65,1000⟩,[(.exit 0,⟨[FS 5 64 .ex],[],64,65,1000⟩),(.ret,⟨[(4,.one (m7))],[],64,64,1000⟩)],1,fun n x=>yw n x.1.1 x.1.2.1 x.1.2.2.1 x.1.2.2.2.1,[],[]⟩:=fG (ab.nil.fn Ge)
noncomputable def yj:Nat->be->be->Int->Option (d6×Unit)
 |0,_,_,_=>none
 |n+1,t6,t7,t8=>
 cond (ak 0 t8) (cond ((ak 0 t8) &&(aD t8 (len t6))) ((t6[(Int.toNat t8)]?).bind fun x24=>
 cond (room (((List.length t7)+(List.length (x24::([]:List Int))))*9)) (yj n t6 (t7++(x24::([]:List Int))) (zao (t8 - 1))) none) none)<|some ((t7,()),())
theorem MS:LZ ⟨71,8,none,⟨[FS 6 66 .ex,FS 7 67 .ex,(8,ac)],[],66,68,2002⟩,[(.exit 0,⟨[FS 7 66 .ex],[],66,67,2002⟩)],0,fun n x=>yj n x.1.1 x.1.2.1 x.1.2.2.1,[65],[]⟩:=fG ab.nil
noncomputable def n9:Nat->Int->be->be->Int->Option (d6×Unit)
 |0,_,_,_,_=>none
 |n+1,t1,t6,t7,t9=>
 cond (aD t9 (len t6)) (cond ((ak 0 t9) &&(aD t9 (len t6))) ((t6[(Int.toNat t9)]?).bind fun x33=>
 (AH (n+1) t7 t1 x33).bind fun y34=>
 n9 n t1 t6 y34.1 (zao (t9+1))) none)<|some ((t7,()),())
theorem Ii:LZ ⟨71,13,none,⟨[(1,ac),FS 6 66 .ex,(7,.one (.aB am)),(9,ac)],[],66,67,2002⟩,[(.exit 2,⟨[(7,.one (.aB am))],[],66,66,2002⟩)],2,fun n x=>n9 n x.1.1 x.1.2.1 x.1.2.2.1 x.1.2.2.2.1,[],[]⟩:=fG (ab.nil.fn IT)
noncomputable def om (n:Nat) (s:List UInt8) (base:Int):Option (ce×bv):=
 (cond (s==([]:List UInt8)) (some true)<|cond (aD 5000 (len s)) (some true)<|cond (base !=8) (cond (base !=10) (some (base !=16))<|some false)<|some false).bind fun b1=>
 cond b1 (some (([]:List UInt8),false,()))<|(yw n s base ([]:List Int) 0).bind fun y18=>
 match y18 with
 | .inl y19=>
 cond (ite (Eq false true) (!(List.isEmpty y19.1.1)) (List.isEmpty y19.1.1)) (some (([]:List UInt8),false,()))<|cond (base==10) ((yj (n+2) y19.1.1 ([]:List Int) (zao ((len y19.1.1) - 1))).bind fun y25=>
 (lL n y25.1.1).bind fun y26=>
 some (y26.1,true,()))<|(n9 n base y19.1.1 (0::([]:List Int)) 0).bind fun y35=>
 (lL n y35.1.1).bind fun y36=>
 some (y36.1,true,())
 | .inr _=>
 some (([]:List UInt8),false,())
theorem HJ:FZ ⟨71,[(false,.str),(false,am)],[(false,.str),(false,.bool)],2,fun n x=>om n x.1 x.2.1⟩:=dv ((((ab.nil.lp KB).lp MS).fn Dj).lp Ii)
noncomputable def Dk:Nat->Bool->ce->Int->Bool->ce->Int->Int->Option ((Bool×(ce×(Int×d7)))×((Bool×(ce×(Int×dg)))×Unit))
 |0,_,_,_,_,_,_,_=>none
 |n+1,t0,t1,t2,c64_0,c64_1,c64_2,c64_3=>
 (cond (aD 1 (len t1)) ((t1[0]?).bind fun x7=>
 some (x7==(48:UInt8)))<|some false).bind fun b8=>
 cond b8 (cond (ak 1 (len t1)) (Dk n t0 (List.take ((List.length t1) - 1) (List.drop 1 t1)) t2 c64_0 c64_1 c64_2 c64_3) none)<|some ((t0,(t1,(t2,((),())))),((c64_0,(c64_1,(c64_2,(c64_3,())))),()))
theorem N4:LZ ⟨72,1,none,⟨[(0,.one (.bool)),(1,.one (.str)),(2,ac),EQ 6 64],[(64,wn)],65,65,1001⟩,[(.exit 0,⟨[(0,.one (.bool)),(1,.one (.str)),(2,ac),EQ 6 64],[(64,wn)],65,65,1001⟩)],0,fun n x=>let y:=x.2.1;Dk n x.1.1 x.1.2.1 x.1.2.2.1 y.1 y.2.1 y.2.2.1 y.2.2.2.1,[],[64]⟩:=fG ab.nil
noncomputable def AO:Nat->Bool->ce->Int->Bool->ce->Int->Int->Option ((Bool×(ce×(Int×d7)))×((Bool×(ce×(Int×dg)))×Unit))
 |0,_,_,_,_,_,_,_=>none
 |n+1,t0,t1,t2,c64_0,c64_1,c64_2,c64_3=>
 cond (ak 0 (zao ((len t1) - 1))) ((t1[(Int.toNat (zao ((len t1) - 1)))]?).bind fun x14=>
 cond (x14==(48:UInt8)) (cond ((ak 0 (zao ((len t1) - 1))) &&(ak (zao ((len t1) - 1)) (len t1))) (AO n t0 (List.take ((Int.toNat (zao ((len t1) - 1))) - 0) (List.drop 0 t1)) (zao (t2+1)) c64_0 c64_1 c64_2 c64_3) none)<|some ((t0,(t1,(t2,((),())))),((c64_0,(c64_1,(c64_2,(c64_3,())))),()))) none
theorem Ob:LZ ⟨72,5,none,⟨[(0,.one (.bool)),(1,.one (.str)),(2,ac),EQ 6 64],[(64,wn)],65,65,2002⟩,[(.exit 2,⟨[(0,.one (.bool)),(1,.one (.str)),(2,ac),EQ 6 64],[(64,wn)],65,65,2002⟩)],0,fun n x=>let y:=x.2.1;AO n x.1.1 x.1.2.1 x.1.2.2.1 y.1 y.2.1 y.2.2.1 y.2.2.2.1,[],[64]⟩:=fG ab.nil
noncomputable def dU (n:Nat) (below:Bool) (digits:List UInt8) (exp:Int):Option (kw×Unit):=
 (Dk (n+1) below digits exp false ([]:List UInt8) 0 0).bind fun y9=>
 (cond (y9.1.2.1==([48]:List UInt8)) (some true)<|some (y9.1.2.1==([]:List UInt8))).bind fun b11=>
 cond b11 (some ((y9.1.1,(([48]:List UInt8),(0,0))),()))<|(AO (n+1) y9.1.1 y9.1.2.1 y9.1.2.2.1 false ([]:List UInt8) 0 0).bind fun y15=>
 some ((y15.1.1,(y15.1.2.1,(y15.1.2.2.1,0))),())
theorem AM:FZ ⟨72,[(false,.bool),(false,.str),(false,am)],[(true,(.cons .bool (.cons .str (.cons am am))))],1,fun n x=>dU n x.1 x.2.1 x.2.2.1⟩:=dv ((ab.nil.lp N4).lp Ob)
noncomputable def jh (n:Nat) (s:List UInt8):Option (ce×bv):=
 (ki n s ([45]:List UInt8)).bind fun y0=>
 cond y0.1 (cond (ak 1 (len s)) ((s[0]?).bind fun x1=>
 some ((List.take ((List.length s) - 1) (List.drop 1 s)),(x1==(45:UInt8)),())) none)<|(ki n s ([43]:List UInt8)).bind fun y2=>
 cond y2.1 (cond (ak 1 (len s)) ((s[0]?).bind fun x3=>
 some ((List.take ((List.length s) - 1) (List.drop 1 s)),(x3==(45:UInt8)),())) none)<|some (s,false,())
theorem vn:FZ ⟨70,[(false,.str)],[(false,.str),(false,.bool)],1,fun n x=>jh n x.1⟩:=dv (ab.nil.fn uD)
noncomputable def yx:Nat->ce->Int->Int->Option ((ce×(Int×dg))×Unit)
 |0,_,_,_=>none
 |n+1,t0,t1,t6=>
 (cond (aD t1 (len t0)) (cond (ak 0 t1) ((t0[(Int.toNat t1)]?).bind fun x9=>
 cond (Nat.ble (UInt8.toNat (48:UInt8)) (UInt8.toNat x9)) (cond (ak 0 t1) ((t0[(Int.toNat t1)]?).bind fun x10=>
 some (Nat.ble (UInt8.toNat x10) (UInt8.toNat (57:UInt8)))) none)<|some false) none)<|some false).bind fun b11=>
 cond b11 (yx n t0 (zao (t1+1)) t6)<|some ((t0,(t1,(t6,()))),())
theorem Mk:LZ ⟨73,2,none,⟨[(0,.one (.str)),(1,ac),(6,ac)],[],64,64,1000⟩,[(.exit 0,⟨[(0,.one (.str)),(1,ac),(6,ac)],[],64,64,1000⟩)],0,fun n x=>yx n x.1.1 x.1.2.1 x.1.2.2.1,[],[]⟩:=fG ab.nil
noncomputable def wL (n:Nat) (s:List UInt8) (i:Int):Option (ce×dg):=
 (yx (n+1) s i i).bind fun y12=>
 cond ((ak 0 y12.1.2.1) &&(ak y12.1.2.1 (len y12.1.1))) (cond ((ak 0 y12.1.2.2.1) &&(ak y12.1.2.2.1 (((Int.toNat y12.1.2.1):Nat):Int))) (some ((List.take ((Int.toNat y12.1.2.1) - (Int.toNat y12.1.2.2.1)) (List.drop (Int.toNat y12.1.2.2.1) y12.1.1)),y12.1.2.1,())) none) none
theorem OB:FZ ⟨73,[(false,.str),(false,am)],[(false,.str),(false,am)],1,fun n x=>wL n x.1 x.2.1⟩:=dv (ab.nil.lp Mk)
noncomputable def OW (n:Nat) (s:List UInt8):Option (kw×bv):=
 (jh (n+1) s).bind fun y0=>
 (ki (n+2) s ([48,111]:List UInt8)).bind fun y1=>
 cond y1.1 (cond (ak 2 (len s)) ((ki (n+2) s ([48,120]:List UInt8)).bind fun y2=>
 cond y2.1 (cond (ak 2 (len s)) ((om n (List.take ((List.length s) - 2) (List.drop 2 s)) 16).bind fun y3=>
 cond (!y3.2.1) (some ((false,(([]:List UInt8),(0,0))),false,()))<|cond y0.2.1 ((dU (n+1) (!(y3.1==([48]:List UInt8))) y3.1 0).bind fun y4=>
 some ((y4.1.1,(y4.1.2.1,(y4.1.2.2.1,y4.1.2.2.2))),true,()))<|(dU (n+1) false y3.1 0).bind fun y5=>
 some ((y5.1.1,(y5.1.2.1,(y5.1.2.2.1,y5.1.2.2.2))),true,())) none)<|(om n (List.take ((List.length s) - 2) (List.drop 2 s)) 8).bind fun y6=>
 cond (!y6.2.1) (some ((false,(([]:List UInt8),(0,0))),false,()))<|cond y0.2.1 ((dU (n+1) (!(y6.1==([48]:List UInt8))) y6.1 0).bind fun y7=>
 some ((y7.1.1,(y7.1.2.1,(y7.1.2.2.1,y7.1.2.2.2))),true,()))<|(dU (n+1) false y6.1 0).bind fun y8=>
 some ((y8.1.1,(y8.1.2.1,(y8.1.2.2.1,y8.1.2.2.2))),true,())) none)<|(ki (n+2) s ([48,120]:List UInt8)).bind fun y9=>
 cond y9.1 (cond (ak 2 (len s)) ((om n (List.take ((List.length s) - 2) (List.drop 2 s)) 16).bind fun y10=>
 cond (!y10.2.1) (some ((false,(([]:List UInt8),(0,0))),false,()))<|cond y0.2.1 ((dU (n+1) (!(y10.1==([48]:List UInt8))) y10.1 0).bind fun y11=>
 some ((y11.1.1,(y11.1.2.1,(y11.1.2.2.1,y11.1.2.2.2))),true,()))<|(dU (n+1) false y10.1 0).bind fun y12=>
 some ((y12.1.1,(y12.1.2.1,(y12.1.2.2.1,y12.1.2.2.2))),true,())) none)<|(om n y0.1 10).bind fun y13=>
 cond (!y13.2.1) (some ((false,(([]:List UInt8),(0,0))),false,()))<|cond y0.2.1 ((dU (n+1) (!(y13.1==([48]:List UInt8))) y13.1 0).bind fun y14=>
 some ((y14.1.1,(y14.1.2.1,(y14.1.2.2.1,y14.1.2.2.2))),true,()))<|(dU (n+1) false y13.1 0).bind fun y15=>
 some ((y15.1.1,(y15.1.2.1,(y15.1.2.2.1,y15.1.2.2.2))),true,())
theorem OX:FZ ⟨45,[(false,.str)],[(true,(.cons .bool (.cons .str (.cons am am)))),(false,.bool)],3,fun n x=>OW n x.1⟩:=dv ((((ab.nil.fn vn).fn uD).fn HJ).fn AM)
noncomputable def kp:Nat->ce->Bool->ce->ce->Int->Bool->ce->Int->Int->Bool->ce->Int->Int->Option ((Unit×(ce×(Bool×(ce×(ce×(Int×bv))))))×((Bool×(ce×(Int×dg)))×Unit))
 |0,_,_,_,_,_,_,_,_,_,_,_,_,_=>none
 |n+1,t4,t5,t6,t8,t9,t11,t12,t13,t14,c64_0,c64_1,c64_2,c64_3=>
 cond (aD t14 t13) (cond (ak 0 t14) ((t12[(Int.toNat t14)]?).bind fun x18=>
 kp n t4 t5 t6 t8 (zao ((zao ((zao (t9*10))+(zao (ub x18)))) - 48)) t11 t12 t13 (zao (t14+1)) c64_0 c64_1 c64_2 c64_3) none)<|some (((),(t4,(t5,(t6,(t8,(t9,(t11,()))))))),((c64_0,(c64_1,(c64_2,(c64_3,())))),()))
theorem HK:LZ ⟨46,25,none,⟨[EQ 2 64,(4,.one (.str)),(5,.one (.bool)),(6,.one (.str)),(8,.one (.str)),(9,ac),(11,.one (.bool)),(12,.one (.str)),(13,ac),(14,ac)],[(64,wn)],65,65,1001⟩,[(.exit 2,⟨[EQ 2 64,(4,.one (.str)),(5,.one (.bool)),(6,.one (.str)),(8,.one (.str)),(9,ac),(11,.one (.bool))],[(64,wn)],65,65,1001⟩)],0,fun n x=>let y:=x.1.2.2.2.2;let z:=y.2.2;let w:=x.2.1;kp n x.1.2.1 x.1.2.2.1 x.1.2.2.2.1 y.1 y.2.1 z.1 z.2.1 z.2.2.1 z.2.2.2.1 w.1 w.2.1 w.2.2.1 w.2.2.2.1,[],[64]⟩:=fG ab.nil
noncomputable def AB (n:Nat) (s:List UInt8):Option (kw×bv):=
 (jh n s).bind fun y0=>
 cond (y0.1==([46,105,110,102]:List UInt8)) (some ((y0.2.1,(([]:List UInt8),(0,1))),true,()))<|cond (y0.1==([46,73,110,102]:List UInt8)) (some ((y0.2.1,(([]:List UInt8),(0,1))),true,()))<|cond (y0.1==([46,73,78,70]:List UInt8)) (some ((y0.2.1,(([]:List UInt8),(0,1))),true,()))<|cond (s==([46,110,97,110]:List UInt8)) (some ((false,(([]:List UInt8),(0,2))),true,()))<|cond (s==([46,78,97,78]:List UInt8)) (some ((false,(([]:List UInt8),(0,2))),true,()))<|cond (s==([46,78,65,78]:List UInt8)) (some ((false,(([]:List UInt8),(0,2))),true,()))<|(wL n y0.1 0).bind fun y1=>
 (cond (aD y1.2.1 (len y0.1)) (cond (ak 0 y1.2.1) ((y0.1[(Int.toNat y1.2.1)]?).bind fun x3=>
 some (x3==(46:UInt8))) none)<|some false).bind fun b4=>
 cond b4 ((wL n y0.1 (zao (y1.2.1+1))).bind fun y5=>
 (cond (y1.1==([]:List UInt8)) (cond (y5.1==([]:List UInt8)) (some true)<|some (aD 5000 (zao ((len y1.1)+(len y5.1)))))<|some (aD 5000 (zao ((len y1.1)+(len y5.1))))).bind fun b7=>
 cond b7 (some ((false,(([]:List UInt8),(0,0))),false,()))<|(cond (aD y5.2.1 (len y0.1)) (cond (ak 0 y5.2.1) ((y0.1[(Int.toNat y5.2.1)]?).bind fun x9=>
 cond (x9==(101:UInt8)) (some true)<|cond (ak 0 y5.2.1) ((y0.1[(Int.toNat y5.2.1)]?).bind fun x10=>
 some (x10==(69:UInt8))) none) none)<|some false).bind fun b11=>
 cond b11 (cond ((ak 0 (zao (y5.2.1+1))) &&(ak (zao (y5.2.1+1)) (len y0.1))) ((jh n (List.take ((List.length y0.1) - (Int.toNat (zao (y5.2.1+1)))) (List.drop (Int.toNat (zao (y5.2.1+1))) y0.1))).bind fun y12=>
 (wL n y12.1 0).bind fun y13=>
 (cond (y13.2.1 !=(len y12.1)) (some true)<|cond (aD y13.2.1 1) (some true)<|some (aD 9 y13.2.1)).bind fun b15=>
 cond b15 (some ((false,(([]:List UInt8),(0,0))),false,()))<|(kp (n+2) y0.1 y0.2.1 y1.1 y5.1 0 y12.2.1 y13.1 y13.2.1 0 false ([]:List UInt8) 0 0).bind fun y19=>
 cond y19.1.2.2.2.2.2.2.1 (cond ((len y19.1.2.1) !=(len y19.1.2.1)) (some ((false,(([]:List UInt8),(0,0))),false,()))<|cond (room ((List.length y19.1.2.2.2.1)+(List.length y19.1.2.2.2.2.1))) ((dU n y19.1.2.2.1 (y19.1.2.2.2.1++y19.1.2.2.2.2.1) (zao ((zao (0 - y19.1.2.2.2.2.2.1)) - (len y19.1.2.2.2.2.1)))).bind fun y20=>
 some ((y20.1.1,(y20.1.2.1,(y20.1.2.2.1,y20.1.2.2.2))),true,())) none)<|cond ((len y19.1.2.1) !=(len y19.1.2.1)) (some ((false,(([]:List UInt8),(0,0))),false,()))<|cond (room ((List.length y19.1.2.2.2.1)+(List.length y19.1.2.2.2.2.1))) ((dU n y19.1.2.2.1 (y19.1.2.2.2.1++y19.1.2.2.2.2.1) (zao (y19.1.2.2.2.2.2.1 - (len y19.1.2.2.2.2.1)))).bind fun y21=>
 some ((y21.1.1,(y21.1.2.1,(y21.1.2.2.1,y21.1.2.2.2))),true,())) none) none)<|cond (y5.2.1 !=(len y0.1)) (some ((false,(([]:List UInt8),(0,0))),false,()))<|cond (room ((List.length y1.1)+(List.length y5.1))) ((dU n y0.2.1 (y1.1++y5.1) (zao (0 - (len y5.1)))).bind fun y22=>
 some ((y22.1.1,(y22.1.2.1,(y22.1.2.2.1,y22.1.2.2.2))),true,())) none)<|(cond (y1.1==([]:List UInt8)) (some true)<|some (aD 5000 (zao ((len y1.1)+0)))).bind fun b24=>
 cond b24 (some ((false,(([]:List UInt8),(0,0))),false,()))<|(cond (aD y1.2.1 (len y0.1)) (cond (ak 0 y1.2.1) ((y0.1[(Int.toNat y1.2.1)]?).bind fun x26=>
 cond (x26==(101:UInt8)) (some true)<|cond (ak 0 y1.2.1) ((y0.1[(Int.toNat y1.2.1)]?).bind fun x27=>
 some (x27==(69:UInt8))) none) none)<|some false).bind fun b28=>
 cond b28 (cond ((ak 0 (zao (y1.2.1+1))) &&(ak (zao (y1.2.1+1)) (len y0.1))) ((jh n (List.take ((List.length y0.1) - (Int.toNat (zao (y1.2.1+1)))) (List.drop (Int.toNat (zao (y1.2.1+1))) y0.1))).bind fun y29=>
 (wL n y29.1 0).bind fun y30=>
 (cond (y30.2.1 !=(len y29.1)) (some true)<|cond (aD y30.2.1 1) (some true)<|some (aD 9 y30.2.1)).bind fun b32=>
 cond b32 (some ((false,(([]:List UInt8),(0,0))),false,()))<|(kp (n+2) y0.1 y0.2.1 y1.1 ([]:List UInt8) 0 y29.2.1 y30.1 y30.2.1 0 false ([]:List UInt8) 0 0).bind fun y33=>
 cond y33.1.2.2.2.2.2.2.1 (cond ((len y33.1.2.1) !=(len y33.1.2.1)) (some ((false,(([]:List UInt8),(0,0))),false,()))<|cond (room ((List.length y33.1.2.2.2.1)+(List.length y33.1.2.2.2.2.1))) ((dU n y33.1.2.2.1 (y33.1.2.2.2.1++y33.1.2.2.2.2.1) (zao ((zao (0 - y33.1.2.2.2.2.2.1)) - (len y33.1.2.2.2.2.1)))).bind fun y34=>
 some ((y34.1.1,(y34.1.2.1,(y34.1.2.2.1,y34.1.2.2.2))),true,())) none)<|cond ((len y33.1.2.1) !=(len y33.1.2.1)) (some ((false,(([]:List UInt8),(0,0))),false,()))<|cond (room ((List.length y33.1.2.2.2.1)+(List.length y33.1.2.2.2.2.1))) ((dU n y33.1.2.2.1 (y33.1.2.2.2.1++y33.1.2.2.2.2.1) (zao (y33.1.2.2.2.2.2.1 - (len y33.1.2.2.2.2.1)))).bind fun y35=>
 some ((y35.1.1,(y35.1.2.1,(y35.1.2.2.1,y35.1.2.2.2))),true,())) none) none)<|cond (y1.2.1 !=(len y0.1)) (some ((false,(([]:List UInt8),(0,0))),false,()))<|cond (room ((List.length y1.1)+(List.length ([]:List UInt8)))) ((dU n y0.2.1 (y1.1++([]:List UInt8)) 0).bind fun y36=>
 some ((y36.1.1,(y36.1.2.1,(y36.1.2.2.1,y36.1.2.2.2))),true,())) none
theorem HU:FZ ⟨46,[(false,.str)],[(true,(.cons .bool (.cons .str (.cons am am)))),(false,.bool)],2,fun n x=>AB n x.1⟩:=dv ((((ab.nil.fn vn).fn OB).lp HK).fn AM)
noncomputable def p8:Nat->ce->Int->(List ce)->Option ((Unit×((List ce)×Unit))⊕(bv×((List ce)×Unit)))
 |0,_,_,_=>none
 |n+1,t0,t5,a64=>
 cond (aD t5 (len a64)) (cond ((ak 0 t5) &&(aD t5 (len a64))) ((a64[(Int.toNat t5)]?).bind fun x2=>
 cond (x2==t0) (some (.inr ((true,()),(a64,()))))<|p8 n t0 (zao (t5+1)) a64) none)<|some (.inl ((),(a64,())))
theorem u5:LZ ⟨74,2,none,⟨[(0,.one (.str)),(1,.one (.fix (TV.all 64))),(5,ac)],[(64,.arr 9 .str true false .no)],65,65,1001⟩,[(.exit 0,⟨[],[(64,.arr 9 .str true false .no)],65,65,1001⟩),(.ret,⟨[(4,.one (.bool))],[(64,.arr 9 .str true false .no)],65,65,1001⟩)],0,fun n x=>p8 n x.1.1 x.1.2.2.1 x.2.1,[],[]⟩:=fG ab.nil
noncomputable def G4 (n:Nat) (s:List UInt8):Option bv:=
 (p8 (n+1) s 0 (([110,117,108,108]:List UInt8)::(([78,117,108,108]:List UInt8)::(([78,85,76,76]:List UInt8)::(([126]:List UInt8)::(([]:List UInt8):: [])))))).bind fun y3=>
 match y3 with
 | .inl _=>
 some (false,())
 | .inr y5=>
 some (y5.1.1,())
theorem Mc:FZ ⟨47,[(false,.str)],[(false,.bool)],2,fun n x=>G4 n x.1⟩:=dv (ab.nil.lp u5)
noncomputable def Ot (n:Nat) (s:List UInt8):Option bv:=
 (p8 (n+1) s 0 (([116,114,117,101]:List UInt8)::(([84,114,117,101]:List UInt8)::(([84,82,85,69]:List UInt8):: [])))).bind fun y0=>
 match y0 with
 | .inl _=>
 some (false,())
 | .inr y2=>
 some (y2.1.1,())
theorem Qr:FZ ⟨48,[(false,.str)],[(false,.bool)],2,fun n x=>Ot n x.1⟩:=dv (ab.nil.lp u5)
noncomputable def TZ (n:Nat) (s:List UInt8):Option bv:=
 (p8 (n+1) s 0 (([102,97,108,115,101]:List UInt8)::(([70,97,108,115,101]:List UInt8)::(([70,65,76,83,69]:List UInt8):: [])))).bind fun y0=>
 match y0 with
 | .inl _=>
 some (false,())
 | .inr y2=>
 some (y2.1.1,())
theorem SC:FZ ⟨49,[(false,.str)],[(false,.bool)],2,fun n x=>TZ n x.1⟩:=dv (ab.nil.lp u5)
noncomputable def Hg (n:Nat) (s:List UInt8):Option jp:=
 (OW n s).bind fun y0=>
 (AB (n+1) s).bind fun y1=>
 (G4 (n+1) s).bind fun y2=>
 cond y2.1 (some (([116,97,103,58,121,97,109,108,46,111,114,103,44,50,48,48,50,58,110,117,108,108]:List UInt8),()))<|(Ot (n+1) s).bind fun y3=>
 cond y3.1 (some (([116,97,103,58,121,97,109,108,46,111,114,103,44,50,48,48,50,58,98,111,111,108]:List UInt8),()))<|(TZ (n+1) s).bind fun y4=>
 cond y4.1 (some (([116,97,103,58,121,97,109,108,46,111,114,103,44,50,48,48,50,58,98,111,111,108]:List UInt8),()))<|cond y0.2.1 (some (([116,97,103,58,121,97,109,108,46,111,114,103,44,50,48,48,50,58,105,110,116]:List UInt8),()))<|cond y1.2.1 (some (([116,97,103,58,121,97,109,108,46,111,114,103,44,50,48,48,50,58,102,108,111,97,116]:List UInt8),()))<|some (([116,97,103,58,121,97,109,108,46,111,114,103,44,50,48,48,50,58,115,116,114]:List UInt8),())
theorem K8:FZ ⟨26,[(false,.str)],[(false,.str)],4,fun n x=>Hg n x.1⟩:=dv (((((ab.nil.fn OX).fn HU).fn Mc).fn Qr).fn SC)
noncomputable def Mx (_n:Nat) (a:Int) (b:Int):Option dg:=
 cond (aD a 0) (some (0,()))<|cond (aD b a) (some (b,()))<|some (a,())
theorem OF:FZ ⟨24,[(false,am),(false,am)],[(false,am)],0,fun n x=>Mx n x.1 x.2.1⟩:=dv ab.nil
noncomputable def GA (_n:Nat) (k:Int):Option jp:=
 cond (k==1) (some (([116,97,103,58,121,97,109,108,46,111,114,103,44,50,48,48,50,58,115,116,114]:List UInt8),()))<|cond (k==2) (some (([116,97,103,58,121,97,109,108,46,111,114,103,44,50,48,48,50,58,115,101,113]:List UInt8),()))<|cond (k==3) (some (([116,97,103,58,121,97,109,108,46,111,114,103,44,50,48,48,50,58,109,97,112]:List UInt8),()))<|some (([]:List UInt8),())
theorem Ms:FZ ⟨25,[(false,am)],[(false,.str)],0,fun n x=>GA n x.1⟩:=dv ab.nil
noncomputable def An (D:Nat) (F:Nat->aw [(false,(.bH ko)),(false,am),(false,am)]×bc []->Option (PR none (aw [(false,am)]×R2 (some [.tF 64 40 bT 3 3 am .any,.all 65 3 am .any]) (bc [])))):du:=⟨12,[],[(false,(.bH ko)),(false,am),(false,am)],[(false,am)],64,[],64,[],66,false,none,(some [.tF 64 40 bT 3 3 am .any,.all 65 3 am .any]),D,F⟩
noncomputable def fM:Nat->gQ->Int->Int->be->(List i6)->Int->Int->Int->bL->be->Int->ce->ce->ce->Int->Bool->Option ((gQ×(Int×(Int×(Unit×(Unit×(be×((List i6)×(Int×(Unit×dg)))))))))×(i7×(m4×((Int×(ce×(ce×(ce×(Int×bv)))))×Unit))))
 |0,_,_,_,_,_,_,_,_,_,_,_,_,_,_,_,_=>none
 |n+1,t0,t1,t2,t9,t10,t11,t13,t14,c65_0,c65_1,c70_0,c70_1,c70_2,c70_3,c70_4,c70_5=>
 cond (aD t14 (len t10)) (cond ((ak 0 t14) &&(aD t14 (len t10))) ((t10[(Int.toNat t14)]?).bind fun x94=>
 cond (x94.1==c70_3) (cond ((ak 0 t14) &&(aD t14 (len t10))) ((t10[(Int.toNat t14)]?).bind fun x95=>
 fM n t0 t1 t2 t9 t10 t11 x95.2 (zao (t14+1)) c65_0 c65_1 c70_0 c70_1 c70_2 c70_3 c70_4 c70_5) none)<|fM n t0 t1 t2 t9 t10 t11 t13 (zao (t14+1)) c65_0 c65_1 c70_0 c70_1 c70_2 c70_3 c70_4 c70_5) none)<|some ((t0,(t1,(t2,((),((),(t9,(t10,(t11,((),(t13,())))))))))),(((),((),())),((c65_0,(c65_1,())),((c70_0,(c70_1,(c70_2,(c70_3,(c70_4,(c70_5,())))))),()))))
theorem zU:LZ ⟨12,35,none,⟨[(0,.one (.aB ko)),(1,ac),(2,ac),EQ 6 64,EQ 8 65,FS 9 71 .any,(10,.one (.all 72 66 (.cons .str am) .ex)),(11,ac),EQ 12 70,(13,ac),(14,ac)],[(64,wp),(65,ww 73 74),(70,.cells 45 [ap,.str,.str,.str,ap,.bool] true)],71,75,2006⟩,[(.exit 3,⟨[(0,.one (.aB ko)),(1,ac),(2,ac),EQ 6 64,EQ 8 65,FS 9 71 .any,(10,.one (.all 72 66 (.cons .str am) .ex)),(11,ac),EQ 12 70,(13,ac)],[(64,wp),(65,ww 73 74),(70,.cells 45 [ap,.str,.str,.str,ap,.bool] true)],71,75,2006⟩)],0,fun n x=>let y:=x.1.2.2.2.2.2;let z:=x.2.2.2.1;let w:=z.2.2;fM n x.1.1 x.1.2.1 x.1.2.2.1 y.1 y.2.1 y.2.2.1 y.2.2.2.2.1 y.2.2.2.2.2.1 x.2.2.1.1 x.2.2.1.2.1 z.1 z.2.1 w.1 w.2.1 w.2.2.1 w.2.2.2.1,[],[64,70]⟩:=fG ab.nil
noncomputable def Pw:Tm:=⟨[(0,.one (.aB ko)),(1,ac),(2,ac),EQ 6 64,EQ 8 65,FS 9 66 .any,(10,.one (.all 67 66 (.cons .str am) .ex)),(11,ac)],[(64,wp),(65,ww 68 69)],66,70,1003⟩
noncomputable def TT {R:Type} (r:be->bL->be->Option R) (e k:Int) (t:List Int) (ns:List (Int×ci)) (rs:List Int):Option R:=
 (cond (e==3) (some true)<|some (e==5)).bind fun b=>
 cond b (cond (room (((List.length t)+(List.length (k::([]:List Int))))*9)) (r (t++(k::([]:List Int))) ns rs) none)<|r t ns rs
noncomputable def TB {R:Type} (r:be->bL->be->Option R) (e k:Int) (t:List Int) (ns:List (Int×ci)) (rs:List Int):Option R:=
 cond (aD 0 (len t)) (cond ((ak 0 (zao ((len t) - 1))) &&(aD (zao ((len t) - 1)) (len t))) ((t[(Int.toNat (zao ((len t) - 1)))]?).bind fun u=>
 cond ((ak 0 u) &&(aD u (len ns))) ((ns[(Int.toNat u)]?).bind fun p=>
 cond (room (((List.length p.2.2.2.1)+(List.length (k::([]:List Int))))*9)) (cond ((ak 0 u) &&(aD u (len ns))) (cond (Nat.beq (Int.toNat u) (Int.toNat u)) (TT r e k t (List.set ns (Int.toNat u) (p.1,(p.2.1,(p.2.2.1,((p.2.2.2.1++(k::([]:List Int))),p.2.2.2.2))))) rs) none) none) none) none) none)<|cond (room (((List.length rs)+(List.length (k::([]:List Int))))*9)) (TT r e k t ns (rs++(k::([]:List Int)))) none
noncomputable def SO {R:Type} (r:be->(List i6)->bL->be->Option R) (kd:Int) (x:Int×gc) (t:List Int) (nm:List i6) (ns:List (Int×ci)) (rs:List Int):Option R:=
 cond (room (((List.length ns)+(List.length ((kd,(x.2.2.1,(x.2.1,(([]:List Int),(x.2.2.2.2.1==(1:Int)))))):: [])))*73)) (cond (!(x.2.2.2.1==([]:List UInt8))) (cond (room (((List.length nm)+(List.length ((x.2.2.2.1,(len ns)):: [])))*25)) (TB (fun a b c=>r a (nm++((x.2.2.2.1,(len ns)):: [])) b c) x.1 (len ns) t (ns++((kd,(x.2.2.1,(x.2.1,(([]:List Int),(x.2.2.2.2.1==1))))):: [])) rs) none)<|TB (fun a b c=>r a nm b c) x.1 (len ns) t (ns++((kd,(x.2.2.1,(x.2.1,(([]:List Int),(x.2.2.2.2.1==1))))):: [])) rs) none
noncomputable def ct:Nat->gQ->Int->Int->be->(List i6)->Int->bL->be->Option ((i7×(i7×gt))⊕((Unit×dg)×(i7×gt)))
 |0,_,_,_,_,_,_,_,_=>none
 |n+1,t0,t1,t2,t9,t10,t11,c65_0,c65_1=>
 cond (aD t11 (len t0)) (cond (ak 0 t11) ((t0[(Int.toNat t11)]?).bind fun x211=>
 cond (x211.1==1) (ct n t0 t1 t2 t9 [] (zao (t11+1)) c65_0 c65_1)<|cond (x211.1==2) (ct n t0 t1 t2 t9 t10 (zao (t11+1)) c65_0 c65_1)<|cond (x211.1==4) (cond ((ak 0 (zao ((len t9) - 1))) &&(ak (zao ((len t9) - 1)) (len t9))) (ct n t0 t1 t2 (List.take ((Int.toNat (zao ((len t9) - 1))) - 0) (List.drop 0 t9)) t10 (zao (t11+1)) c65_0 c65_1) none)<|cond (x211.1==6) (cond ((ak 0 (zao ((len t9) - 1))) &&(ak (zao ((len t9) - 1)) (len t9))) (ct n t0 t1 t2 (List.take ((Int.toNat (zao ((len t9) - 1))) - 0) (List.drop 0 t9)) t10 (zao (t11+1)) c65_0 c65_1) none)<|cond (x211.1==8) ((fM (n+2) t0 t1 t2 t9 t10 t11 (-1) 0 c65_0 c65_1 x211.1 x211.2.1 x211.2.2.1 x211.2.2.2.1 x211.2.2.2.2.1 x211.2.2.2.2.2).bind fun y212=>
 cond (aD y212.1.2.2.2.2.2.2.2.2.2.1 0) (some (.inr (((),(10,())),(((),((),())),((y212.2.2.1.1,(y212.2.2.1.2.1,())),())))))<|TB (fun a b c=>ct n y212.1.1 y212.1.2.1 y212.1.2.2.1 a y212.1.2.2.2.2.2.2.1 (zao (y212.1.2.2.2.2.2.2.2.1+1)) b c) x211.1 y212.1.2.2.2.2.2.2.2.2.2.1 y212.1.2.2.2.2.2.1 y212.2.2.1.1 y212.2.2.1.2.1)<|(cond (x211.1 !=7) (some (ak t1 (len t9)))<|some false).bind fun b220=>
 cond b220 (some (.inr (((),(8,())),(((),((),())),((c65_0,(c65_1,())),())))))<|cond (ak t2 (len c65_0)) (some (.inr (((),(9,())),(((),((),())),((c65_0,(c65_1,())),())))))<|cond (x211.1==3) (cond (x211.1==5) (SO (fun a m b c=>ct n t0 t1 t2 a m (zao (t11+1)) b c) 3 x211 t9 t10 c65_0 c65_1)<|SO (fun a m b c=>ct n t0 t1 t2 a m (zao (t11+1)) b c) 2 x211 t9 t10 c65_0 c65_1)<|cond (x211.1==5) (SO (fun a m b c=>ct n t0 t1 t2 a m (zao (t11+1)) b c) 3 x211 t9 t10 c65_0 c65_1)<|SO (fun a m b c=>ct n t0 t1 t2 a m (zao (t11+1)) b c) 1 x211 t9 t10 c65_0 c65_1) none)<|some (.inl (((),((),())),(((),((),())),((c65_0,(c65_1,())),()))))
theorem NW:LZ ⟨12,9,none,Pw,[(.exit 0,⟨[EQ 6 64,EQ 8 65],[(64,wp),(65,ww 66 67)],66,68,1003⟩),(.ret,⟨[EQ 6 64,(7,ac)],[(64,wp),(65,ww 66 67)],66,68,1003⟩)],1,fun n x=>let y:=x.1.2.2.2.2.2;ct n x.1.1 x.1.2.1 x.1.2.2.1 y.1 y.2.1 y.2.2.1 x.2.2.1.1 x.2.2.1.2.1,[],[]⟩:=fG (ab.nil.lp zU)
noncomputable def iH (n:Nat) (l:List (Int×gc)) (depth:Int) (nodes:Int):Option (dg×gt):=
 (mF n l).bind fun y0=>
 cond (!y0.1) (some ((1,()),(([],(([]:List Int),())),())))<|(Mx (n+3) depth 200).bind fun y1=>
 (Mx (n+3) nodes 20000).bind fun y2=>
 (ct (n+3) l y1.1 y2.1 ([]:List Int) [] 0 [] ([]:List Int)).bind fun y269=>
 match y269 with
 | .inl y270=>
 some ((0,()),((y270.2.2.1.1,(y270.2.2.1.2.1,())),()))
 | .inr y271=>
 some ((y271.1.2.1,()),(([],(([]:List Int),())),()))
noncomputable def BT:du:=An 4 (fun n x=>iH n x.1.1 x.1.2.1 x.1.2.2.1)
theorem BZ (n:Nat):cC Tryz.prog hint s8 BT n:=T9 n (((ab.nil.fn EF).fn OF).lp NW)
noncomputable def Ix (D:Nat) (F:Nat->aw [(true,(.cons (.bH bT) (.bH am)))]×bc []->Option (PR none (aw []×R2 (some [.all 64 40 bT .any,.all 65 3 am .any]) (bc [])))):du:=⟨29,[],[(true,(.cons (.bH bT) (.bH am)))],[],64,[],64,[],66,false,none,(some [.all 64 40 bT .any,.all 65 3 am .any]),D,F⟩
noncomputable def ia:Nat->be->be->be->Int->m5->bL->be->Option ((Unit×(Unit×(be×d6)))×(m5×gt))
 |0,_,_,_,_,_,_,_=>none
 |n+1,t7,t8,t10,t11,a68,c69_0,c69_1=>
 cond (ak 0 t11) (cond (ak 0 t11) ((t10[(Int.toNat t11)]?).bind fun x16=>
 cond (room (((List.length t8)+(List.length (x16::([]:List Int))))*9)) (ia n t7 (t8++(x16::([]:List Int))) t10 (zao (t11 - 1)) a68 c69_0 c69_1) none) none)<|some (((),((),(t7,(t8,())))),(a68,((c69_0,(c69_1,())),())))
theorem AE:LZ ⟨52,11,none,⟨[(1,.one (.fix (TV.all 68))),EQ 3 69,FS 7 75 .ex,FS 8 76 .no,(10,.one (.aB am)),(11,ac)],[(68,.arr 4 .bool true false .no),(69,ol)],75,77,2012⟩,[(.exit 2,⟨[(1,.one (.fix (TV.all 68))),EQ 3 69,FS 7 75 .ex,FS 8 76 .no],[(68,.arr 4 .bool true false .no),(69,ol)],75,77,2012⟩)],0,fun n x=>let y:=x.1.2.2;ia n y.1 y.2.1 y.2.2.1 y.2.2.2.1 x.2.1 x.2.2.1.1 x.2.2.1.2.1,[73],[69]⟩:=fG ab.nil
noncomputable def mZ:Nat->be->be->m5->bL->be->Option (d6×(m5×gt))
 |0,_,_,_,_,_=>none
 |n+1,t7,t8,a68,c69_0,c69_1=>
 cond (aD 0 (len t8)) (cond ((ak 0 (zao ((len t8) - 1))) &&(aD (zao ((len t8) - 1)) (len t8))) ((t8[(Int.toNat (zao ((len t8) - 1)))]?).bind fun x23=>
 cond ((ak 0 (zao ((len t8) - 1))) &&(ak (zao ((len t8) - 1)) (len t8))) (cond ((ak 0 x23) &&(aD x23 (len a68))) ((a68[(Int.toNat x23)]?).bind fun x24=>
 cond x24 (mZ n t7 (List.take ((Int.toNat (zao ((len t8) - 1))) - 0) (List.drop 0 t8)) a68 c69_0 c69_1)<|cond ((ak 0 x23) &&(aD x23 (len a68))) ((a68[(Int.toNat x23)]?).bind fun _=>
 cond (room (((List.length t7)+(List.length (x23::([]:List Int))))*9)) (cond (ak 0 x23) ((c69_0[(Int.toNat x23)]?).bind fun x26=>
 (ia (n+2) (t7++(x23::([]:List Int))) (List.take ((Int.toNat (zao ((len t8) - 1))) - 0) (List.drop 0 t8)) x26.2.2.2.1 (zao ((len x26.2.2.2.1) - 1)) (List.set a68 (Int.toNat x23) true) c69_0 c69_1).bind fun y27=>
 mZ n y27.1.2.2.1 y27.1.2.2.2.1 y27.2.1 c69_0 c69_1) none) none) none) none) none) none)<|some ((t7,()),(a68,((c69_0,(c69_1,())),())))
theorem Lg:LZ ⟨52,3,none,⟨[(1,.one (.fix (TV.all 68))),EQ 3 69,FS 7 71 .ex,FS 8 72 .no],[(68,.arr 4 .bool true false .no),(69,ol)],71,73,1008⟩,[(.exit 0,⟨[FS 7 71 .ex],[(68,.arr 4 .bool true false .no),(69,ol)],71,72,1008⟩)],1,fun n x=>mZ n x.1.2.2.1 x.1.2.2.2.1 x.2.1 x.2.2.1.1 x.2.2.1.2.1,[64,65,66,67],[69]⟩:=fG (ab.nil.lp AE)
noncomputable def rj:Nat->be->m5->be->Int->be->Int->bL->be->Option ((Unit×(Unit×(Unit×(be×(m5×(be×dg))))))×(m4×(i7×(i7×Unit))))
 |0,_,_,_,_,_,_,_,_=>none
 |n+1,t4,t5,t6,t7,t8,t9,c64_0,c64_1=>
 cond (aD t9 (len t8)) (cond ((ak 0 t9) &&(aD t9 (len t8))) ((t8[(Int.toNat t9)]?).bind fun x38=>
 cond ((ak 0 x38) &&(aD x38 (len t4))) ((t4[(Int.toNat x38)]?).bind fun _=>
 cond ((ak 0 t9) &&(aD t9 (len t8))) ((t8[(Int.toNat t9)]?).bind fun x40=>
 cond (room (((List.length t6)+(List.length (x40::([]:List Int))))*9)) (rj n (List.set t4 (Int.toNat x38) (len t6)) t5 (t6++(x40::([]:List Int))) t7 t8 (zao (t9+1)) c64_0 c64_1) none) none) none) none)<|some (((),((),((),(t4,(t5,(t6,(t7,()))))))),((c64_0,(c64_1,())),(((),((),())),(((),((),())),()))))
theorem JG:LZ ⟨29,12,none,⟨[EQ 1 64,EQ 2 65,EQ 3 66,FS 4 72 .no,(5,.one (.all 73 4 .bool .no)),FS 6 74 .ex,(7,ac),FS 8 75 .ex,(9,ac)],[(64,ol),(65,wp),(66,wp)],72,76,2009⟩,[(.exit 2,⟨[EQ 1 64,EQ 2 65,EQ 3 66,FS 4 72 .no,(5,.one (.all 73 4 .bool .no)),FS 6 74 .ex,(7,ac)],[(64,ol),(65,wp),(66,wp)],72,75,2009⟩)],0,fun n x=>let y:=x.1.2.2.2;let z:=y.2.2;rj n y.1 y.2.1 z.1 z.2.1 z.2.2.1 z.2.2.2.1 x.2.1.1 x.2.1.2.1,[69],[64,65,66]⟩:=fG ab.nil
noncomputable def vj:Tm:=⟨[(1,.one (.all 80 4 .bool .no)),EQ 3 78,(7,.one (m7)),FS 8 81 .no],[(78,ol)],80,82,4013⟩
noncomputable def BI:Nat->m5->be->bL->be->Option Empty
 |0,_,_,_,_=>none
 |_+1,_,_,_,_=>
 none
noncomputable def BH:bV:=⟨52,3,none,vj,[],0,fun n x=>BI n x.1.1 x.1.2.2.2.1 x.2.1.1 x.2.1.2.1,[64,65,66,75,77],[78]⟩
theorem na:vj.ok Tryz.prog hint:=Tm.J8 rfl
theorem Cg:∀ n,cA Tryz.prog hint s8 BH n:=
 cA.of (hk:=fun Z=>(dq.mk [] []).hk Z) (sh:=s8) (eH.of (by kernel_rfl)) na trivial (fun m=>ab.eR ab.nil m)
  (fun _=>by kernel_rfl) (fun m x=>by kernel_rfl)
noncomputable def Ha:Nat->be->m5->be->Int->bL->be->Option ((Unit×(Unit×(Unit×(be×d6))))×(m4×(i7×(i7×Unit))))
 |0,_,_,_,_,_,_=>none
 |n+1,t4,t5,t6,t7,c64_0,c64_1=>
 cond (aD t7 (len c64_1)) (cond (ak 0 t7) ((c64_1[(Int.toNat t7)]?).bind fun x46=>
 (BI (n+2) t5 (x46::([]:List Int)) c64_0 c64_1).bind fun _=>
 none) none)<|some (((),((),((),(t4,(t6,()))))),((c64_0,(c64_1,())),(((),((),())),(((),((),())),()))))
theorem Ns:LZ ⟨29,8,none,⟨[EQ 1 64,EQ 2 65,EQ 3 66,FS 4 75 .no,(5,.one (.all 76 4 .bool .no)),FS 6 77 .ex,(7,ac)],[(64,ol),(65,wp),(66,wp)],75,78,3010⟩,[(.exit 0,⟨[EQ 1 64,EQ 2 65,EQ 3 66,FS 4 75 .no,FS 6 76 .ex],[(64,ol),(65,wp),(66,wp)],75,77,3010⟩)],2,fun n x=>let y:=x.1.2.2.2;Ha n y.1 y.2.1 y.2.2.1 y.2.2.2.1 x.2.1.1 x.2.1.2.1,[69],[64,65,66]⟩:=fG (ab.nil.loop Cg na)
noncomputable def gZ:Nat->be->be->Int->be->Int->bL->be->bL->Int->ce->ce->be->Bool->Option ((Unit×(Unit×(Unit×(be×(be×(Int×(Unit×d6)))))))×(m4×(i7×((bL×d7)×lc))))
 |0,_,_,_,_,_,_,_,_,_,_,_,_,_=>none
 |n+1,t4,t6,t10,t12,t13,c64_0,c64_1,c66_0,c80_0,c80_1,c80_2,c80_3,c80_4=>
 cond (aD t13 (len c80_3)) (cond (ak 0 t13) ((c80_3[(Int.toNat t13)]?).bind fun x68=>
 cond ((ak 0 x68) &&(aD x68 (len t4))) ((t4[(Int.toNat x68)]?).bind fun x69=>
 cond (room (((List.length t12)+(List.length (x69::([]:List Int))))*9)) (gZ n t4 t6 t10 (t12++(x69::([]:List Int))) (zao (t13+1)) c64_0 c64_1 c66_0 c80_0 c80_1 c80_2 c80_3 c80_4) none) none) none)<|some (((),((),((),(t4,(t6,(t10,((),(t12,())))))))),((c64_0,(c64_1,())),(((),((),())),((c66_0,((),())),((c80_0,(c80_1,(c80_2,(c80_3,(c80_4,()))))),())))))
theorem zT:LZ ⟨29,22,none,⟨[EQ 1 64,EQ 2 65,EQ 3 66,FS 4 81 .no,FS 6 82 .ex,(10,ac),EQ 11 80,FS 12 83 .ex,(13,ac)],[(64,ol),(65,wp),(66,AC 84),(80,ul)],81,85,5014⟩,[(.exit 6,⟨[EQ 1 64,EQ 2 65,EQ 3 66,FS 4 81 .no,FS 6 82 .ex,(10,ac),EQ 11 80,FS 12 83 .ex],[(64,ol),(65,wp),(66,AC 84),(80,ul)],81,85,5014⟩)],0,fun n x=>let y:=x.2.2.2.2.1;let z:=x.1.2.2.2;gZ n z.1 z.2.1 z.2.2.1 z.2.2.2.2.1 z.2.2.2.2.2.1 x.2.1.1 x.2.1.2.1 x.2.2.2.1.1 y.1 y.2.1 y.2.2.1 y.2.2.2.1 y.2.2.2.2.1,[],[64,65,80]⟩:=fG ab.nil
noncomputable def qD:Nat->be->be->Int->bL->be->bL->Option ((Unit×(Unit×(Unit×d6)))×(m4×(i7×((bL×d7)×Unit))))
 |0,_,_,_,_,_,_=>none
 |n+1,t4,t6,t10,c64_0,c64_1,c66_0=>
 cond (aD t10 (len t6)) (cond ((ak 0 t10) &&(aD t10 (len t6))) ((t6[(Int.toNat t10)]?).bind fun x74=>
 cond (ak 0 x74) ((c64_0[(Int.toNat x74)]?).bind fun x75=>
 (gZ (n+2) t4 t6 t10 ([]:List Int) 0 c64_0 c64_1 c66_0 x75.1 x75.2.1 x75.2.2.1 x75.2.2.2.1 x75.2.2.2.2).bind fun y76=>
 cond (room (((List.length y76.2.2.2.1.1)+(List.length ((x75.1,(x75.2.1,(x75.2.2.1,(y76.1.2.2.2.2.2.2.2.1,x75.2.2.2.2)))):: [])))*73)) (qD n y76.1.2.2.2.1 y76.1.2.2.2.2.1 (zao (y76.1.2.2.2.2.2.1+1)) c64_0 c64_1 (y76.2.2.2.1.1++((x75.1,(x75.2.1,(x75.2.2.1,(y76.1.2.2.2.2.2.2.2.1,x75.2.2.2.2)))):: []))) none) none) none)<|some (((),((),((),(t4,())))),((c64_0,(c64_1,())),(((),((),())),((c66_0,((),())),()))))
theorem IL:LZ ⟨29,17,none,⟨[EQ 1 64,EQ 2 65,EQ 3 66,FS 4 77 .no,FS 6 78 .ex,(10,ac)],[(64,ol),(65,wp),(66,AC 79)],77,80,4011⟩,[(.exit 4,⟨[EQ 1 64,EQ 2 65,EQ 3 66,FS 4 77 .no],[(64,ol),(65,wp),(66,AC 78)],77,79,4011⟩)],1,fun n x=>let y:=x.1.2.2.2;qD n y.1 y.2.1 y.2.2.1 x.2.1.1 x.2.1.2.1 x.2.2.2.1.1,[69],[64,65]⟩:=fG (ab.nil.lp zT)
noncomputable def nF:Nat->be->Int->bL->be->bL->be->Option (i7×(m4×(i7×gt)))
 |0,_,_,_,_,_,_=>none
 |n+1,t4,t14,c64_0,c64_1,c66_0,c66_1=>
 cond (aD t14 (len c64_1)) (cond (ak 0 t14) ((c64_1[(Int.toNat t14)]?).bind fun x84=>
 cond ((ak 0 x84) &&(aD x84 (len t4))) ((t4[(Int.toNat x84)]?).bind fun x85=>
 cond (room (((List.length c66_1)+(List.length (x85::([]:List Int))))*9)) (nF n t4 (zao (t14+1)) c64_0 c64_1 c66_0 (c66_1++(x85::([]:List Int)))) none) none) none)<|some (((),((),())),((c64_0,(c64_1,())),(((),((),())),((c66_0,(c66_1,())),()))))
theorem JV:LZ ⟨29,28,none,⟨[EQ 1 64,EQ 2 65,EQ 3 66,FS 4 79 .no,(14,ac)],[(64,ol),(65,wp),(66,.cells 25 [.all 80 40 bT .ex,.all 81 3 am .ex] true)],79,82,5012⟩,[(.exit 8,⟨[EQ 2 65,EQ 3 66],[(64,ol),(65,wp),(66,.cells 25 [.all 79 40 bT .ex,.all 80 3 am .ex] true)],79,81,5012⟩)],0,fun n x=>nF n x.1.2.2.2.1 x.1.2.2.2.2.1 x.2.1.1 x.2.1.2.1 x.2.2.2.1.1 x.2.2.2.1.2.1,[69],[64,65]⟩:=fG ab.nil
noncomputable def mD:Nat->be->Int->bL->be->Option ((Unit×(Unit×(Unit×d6)))×(m4×(i7×(i7×Unit))))
 |0,_,_,_,_=>none
 |_+1,t4,t10,c64_0,c64_1=>
 cond (aD t10 0) (none)<|some (((),((),((),(t4,())))),((c64_0,(c64_1,())),(((),((),())),(((),((),())),()))))
theorem Aw:LZ ⟨29,17,none,⟨[EQ 1 64,EQ 2 65,EQ 3 66,FS 4 69 .no,(6,.one (m7)),(10,ac)],[(64,ol),(65,wp),(66,wp)],69,70,1006⟩,[(.exit 4,⟨[EQ 1 64,EQ 2 65,EQ 3 66,FS 4 69 .no],[(64,ol),(65,wp),(66,wp)],69,70,1006⟩)],0,fun n x=>mD n x.1.2.2.2.1 x.1.2.2.2.2.2.1 x.2.1.1 x.2.1.2.1,[68],[64,65,66]⟩:=fG ab.nil
noncomputable def qZ:Nat->be->Int->bL->be->be->Option (i7×(m4×(i7×((Unit×d6)×Unit))))
 |0,_,_,_,_,_=>none
 |n+1,t4,t14,c64_0,c64_1,c66_1=>
 cond (aD t14 (len c64_1)) (cond (ak 0 t14) ((c64_1[(Int.toNat t14)]?).bind fun x94=>
 cond ((ak 0 x94) &&(aD x94 (len t4))) ((t4[(Int.toNat x94)]?).bind fun x95=>
 cond (room (((List.length c66_1)+(List.length (x95::([]:List Int))))*9)) (qZ n t4 (zao (t14+1)) c64_0 c64_1 (c66_1++(x95::([]:List Int)))) none) none) none)<|some (((),((),())),((c64_0,(c64_1,())),(((),((),())),(((),(c66_1,())),()))))
theorem yX:LZ ⟨29,28,none,⟨[EQ 1 64,EQ 2 65,EQ 3 66,FS 4 70 .no,(14,ac)],[(64,ol),(65,wp),(66,.cells 25 [m7,.all 71 3 am .ex] true)],70,72,2007⟩,[(.exit 8,⟨[EQ 2 65,EQ 3 66],[(64,ol),(65,wp),(66,.cells 25 [m7,.all 70 3 am .ex] true)],70,71,2007⟩)],0,fun n x=>qZ n x.1.2.2.2.1 x.1.2.2.2.2.1 x.2.1.1 x.2.1.2.1 x.2.2.2.1.2.1,[68],[64,65]⟩:=fG ab.nil
noncomputable def qc (n:Nat) (g:ip):Option (Unit×gt):=
 (fh n (g.1,g.2)).bind fun y0=>
 cond (!y0.1) (some ((()),(([],(([]:List Int),())),())))<|cond ((ak (len g.1) (len g.1)) &&(ak ((len g.1)*9) 1099511627776)) (cond ((ak (len g.1) (len g.1)) &&(ak ((len g.1)*2) 1099511627776)) (cond (aD 0 (len g.2)) ((g.2[0]?).bind fun x1=>
 (mZ (n+5) ([]:List Int) (x1::([]:List Int)) (List.replicate (Int.toNat (len g.1)) false) g.1 g.2).bind fun y28=>
 (rj (n+7) (List.replicate (Int.toNat (len g.1)) 0) y28.2.1 ([]:List Int) 0 y28.1.1 0 g.1 g.2).bind fun y41=>
 (Ha (n+4) y41.1.2.2.2.1 y41.1.2.2.2.2.1 y41.1.2.2.2.2.2.1 (zao (y41.1.2.2.2.2.2.2.1+1)) g.1 g.2).bind fun y48=>
 (qD (n+6) y48.1.2.2.2.1 y48.1.2.2.2.2.1 0 g.1 g.2 []).bind fun y77=>
 (nF (n+7) y77.1.2.2.2.1 0 g.1 g.2 y77.2.2.2.1.1 ([]:List Int)).bind fun y86=>
 some ((()),((y86.2.2.2.1.1,(y86.2.2.2.1.2.1,())),())))<|(mD (n+7) (List.replicate (Int.toNat (len g.1)) 0) 0 g.1 g.2).bind fun y87=>
 (qZ (n+7) y87.1.2.2.2.1 0 g.1 g.2 ([]:List Int)).bind fun y96=>
 some ((()),(([],(y96.2.2.2.1.2.1,())),()))) none) none
noncomputable def Mb:du:=Ix 7 (fun n x=>qc n x.1.1)
theorem L9 (n:Nat):cC Tryz.prog hint s8 Mb n:=T9 n ((((((((ab.nil.fn yb).lp Lg).lp JG).lp Ns).lp IL).lp JV).lp Aw).lp yX)
noncomputable def xW:Nat->be->be->Int->Option m0
 |0,_,_,_=>none
 |n+1,t0,t1,t5=>
 cond (aD t5 (len t0)) (cond (ak 0 t5) ((t0[(Int.toNat t5)]?).bind fun x4=>
 cond (ak 0 t5) ((t1[(Int.toNat t5)]?).bind fun x5=>
 cond (x4 !=x5) (some (.inr ((false,()),())))<|xW n t0 t1 (zao (t5+1))) none) none)<|some (.inl ((),()))
theorem Kj:LZ ⟨76,4,none,⟨[(0,.one (.aB am)),(1,.one (.aB am)),(5,ac)],[],64,64,1000⟩,[(.exit 0,⟨[],[],64,64,1000⟩),(.ret,⟨[(4,.one (.bool))],[],64,64,1000⟩)],0,fun n x=>xW n x.1.1 x.1.2.1 x.1.2.2.1,[],[]⟩:=fG ab.nil
noncomputable def jN (n:Nat) (a:List Int) (b:List Int):Option bv:=
 cond ((len a) !=(len b)) (some (false,()))<|(xW (n+1) a b 0).bind fun y6=>
 match y6 with
 | .inl _=>
 some (true,())
 | .inr y8=>
 some (y8.1.1,())
theorem oA:FZ ⟨76,[(false,(.bH am)),(false,(.bH am))],[(false,.bool)],1,fun n x=>jN n x.1 x.2.1⟩:=dv (ab.nil.lp Kj)
noncomputable def xF:Nat->Int->bL->be->bL->be->Option ((Unit×(m4×gt))⊕(bv×(m4×gt)))
 |0,_,_,_,_,_=>none
 |n+1,t5,c64_0,c64_1,c65_0,c65_1=>
 cond (aD t5 (len c64_0)) (cond (ak 0 t5) ((c64_0[(Int.toNat t5)]?).bind fun x7=>
 cond (ak 0 t5) ((c65_0[(Int.toNat t5)]?).bind fun x8=>
 cond (x7.1 !=x8.1) (some (.inr ((false,()),((c64_0,(c64_1,())),((c65_0,(c65_1,())),())))))<|cond (!(x7.2.1==x8.2.1)) (some (.inr ((false,()),((c64_0,(c64_1,())),((c65_0,(c65_1,())),())))))<|cond (!(x7.2.2.1==x8.2.2.1)) (some (.inr ((false,()),((c64_0,(c64_1,())),((c65_0,(c65_1,())),())))))<|cond (!(x7.2.2.2.2==x8.2.2.2.2)) (some (.inr ((false,()),((c64_0,(c64_1,())),((c65_0,(c65_1,())),())))))<|(jN (n+1) x7.2.2.2.1 x8.2.2.2.1).bind fun y9=>
 cond (!y9.1) (some (.inr ((false,()),((c64_0,(c64_1,())),((c65_0,(c65_1,())),())))))<|xF n (zao (t5+1)) c64_0 c64_1 c65_0 c65_1) none) none)<|some (.inl ((),((c64_0,(c64_1,())),((c65_0,(c65_1,())),()))))
theorem M8:LZ ⟨30,4,none,⟨[EQ 2 64,EQ 3 65,(5,ac)],[(64,ol),(65,ol)],66,66,1002⟩,[(.exit 0,⟨[],[(64,ol),(65,ol)],66,66,1002⟩),(.ret,⟨[(4,.one (.bool))],[(64,ol),(65,ol)],66,66,1002⟩)],3,fun n x=>xF n x.1.2.2.1 x.2.1.1 x.2.1.2.1 x.2.2.1.1 x.2.2.1.2.1,[],[64,65]⟩:=fG (ab.nil.fn oA)
noncomputable def kh (n:Nat) (g:ip) (h:ip):Option bv:=
 cond ((len g.1) !=(len h.1)) (some (false,()))<|(jN n g.2 h.2).bind fun y0=>
 cond (!y0.1) (some (false,()))<|(xF n 0 g.1 g.2 h.1 h.2).bind fun y10=>
 match y10 with
 | .inl _=>
 some (true,())
 | .inr y12=>
 some (y12.1.1,())
theorem wO:FZ ⟨30,[(true,(.cons (.bH bT) (.bH am))),(true,(.cons (.bH bT) (.bH am)))],[(false,.bool)],3,fun n x=>kh n x.1 x.2.1⟩:=dv ((ab.nil.fn oA).lp M8)
noncomputable def xj:Nat->Int->bL->be->bL->be->Option (i7×(m4×gt))
 |0,_,_,_,_,_=>none
 |n+1,t7,c68_0,c68_1,c71_0,c71_1=>
 cond (aD t7 (len c68_0)) (cond ((ak 0 t7) &&(aD t7 (len c68_0))) ((c68_0[(Int.toNat t7)]?).bind fun x6=>
 xj n (zao (t7+1)) (List.set c68_0 (Int.toNat t7) (x6.1,(x6.2.1,(x6.2.2.1,(x6.2.2.2.1,false))))) c68_1 c71_0 c71_1) none)<|some (((),((),())),((c68_0,(c68_1,())),((c71_0,(c71_1,())),())))
theorem Mg:LZ ⟨14,6,none,⟨[EQ 5 68,EQ 6 71,(7,ac)],[(68,Do 72 73),(71,Do 74 75)],72,76,1008⟩,[(.exit 0,⟨[EQ 5 68,EQ 6 71],[(68,Do 72 73),(71,Do 74 75)],72,76,1008⟩)],0,fun n x=>xj n x.1.2.2.1 x.2.1.1 x.2.1.2.1 x.2.2.1.1 x.2.2.1.2.1,[64,65],[]⟩:=fG ab.nil
noncomputable def qJ:Nat->Int->bL->be->bL->be->Option (i7×(m4×gt))
 |0,_,_,_,_,_=>none
 |n+1,t8,c68_0,c68_1,c71_0,c71_1=>
 cond (aD t8 (len c71_0)) (cond ((ak 0 t8) &&(aD t8 (len c71_0))) ((c71_0[(Int.toNat t8)]?).bind fun x10=>
 qJ n (zao (t8+1)) c68_0 c68_1 (List.set c71_0 (Int.toNat t8) (x10.1,(x10.2.1,(x10.2.2.1,(x10.2.2.2.1,false))))) c71_1) none)<|some (((),((),())),((c68_0,(c68_1,())),((c71_0,(c71_1,())),())))
theorem Jq:LZ ⟨14,10,none,⟨[EQ 5 68,EQ 6 71,(8,ac)],[(68,Do 76 77),(71,Do 78 79)],76,80,2009⟩,[(.exit 2,⟨[EQ 5 68,EQ 6 71],[(68,Do 76 77),(71,Do 78 79)],76,80,2009⟩)],0,fun n x=>qJ n x.1.2.2.1 x.2.1.1 x.2.1.2.1 x.2.2.1.1 x.2.2.1.2.1,[64,65],[]⟩:=fG ab.nil
noncomputable def AN (n:Nat) (g:ip) (h:ip):Option bv:=
 (fh (n+1) (g.1,g.2)).bind fun y0=>
 cond (!y0.1) (some (false,()))<|(fh (n+1) (h.1,h.2)).bind fun y1=>
 cond (!y1.1) (some (false,()))<|(qc n (g.1,g.2)).bind fun y2=>
 (qc n (h.1,h.2)).bind fun y3=>
 (xj (n+8) 0 y2.2.1.1 y2.2.1.2.1 y3.2.1.1 y3.2.1.2.1).bind fun y7=>
 (qJ (n+8) 0 y7.2.1.1 y7.2.1.2.1 y7.2.2.1.1 y7.2.2.1.2.1).bind fun y11=>
 (kh (n+4) (y11.2.1.1,y11.2.1.2.1) (y11.2.2.1.1,y11.2.2.1.2.1)).bind fun y12=>
 some (y12.1,())
theorem NK:FZ ⟨14,[(true,(.cons (.bH bT) (.bH am))),(true,(.cons (.bH bT) (.bH am)))],[(false,.bool)],8,fun n x=>AN n x.1 x.2.1⟩:=Tj ((((ab.nil.fn yb).lp Mg).lp Jq).fn wO) (eb.nil.pz L9)
noncomputable def alive (n:Nat):Option bv:=
 (events n (((3,(([116,97,103,58,121,97,109,108,46,111,114,103,44,50,48,48,50,58,109,97,112]:List UInt8),(([]:List UInt8),((1::(2::([]:List Int))),false))))::((1,(([116,97,103,58,121,97,109,108,46,111,114,103,44,50,48,48,50,58,115,116,114]:List UInt8),(([97]:List UInt8),(([]:List Int),false))))::((1,(([116,97,103,58,121,97,109,108,46,111,114,103,44,50,48,48,50,58,105,110,116]:List UInt8),(([49]:List UInt8),(([]:List Int),false)))):: []))),(0::([]:List Int))) (0,(0,(1,(false,false))))).bind fun y0=>
 cond (y0.2.1==0) (cond ((len y0.1)==6) ((y0.1[2]?).bind fun x1=>
 cond (x1.2.2.2.2.1==1) ((y0.1[3]?).bind fun x2=>
 cond (x2.2.2.1==([]:List UInt8)) ((y0.1[3]?).bind fun x3=>
 some ((x3.2.2.2.2.1==1),()))<|some (false,()))<|some (false,()))<|some (false,()))<|some (false,())
theorem MD:FZ ⟨7,[],[(false,.bool)],9,fun n _=>alive n⟩:=dv (ab.nil.fn yu)
noncomputable def PY:Tm:=⟨[EQ 2 64,EQ 9 68,(11,ac)],[(64,ol),(68,.cells 25 [.tF 69 40 bT 3 3 am .any,.all 70 3 am .any] true)],69,71,1005⟩
noncomputable def SX {R:Type} (r:bL->Option R) (ns:bL) (i:Int) (x:Int×ci) (tg:List UInt8):Option R:=
 cond ((ak 0 i) &&(aD i (len ns))) (((List.set ns (Int.toNat i) (x.1,(x.2.1,(x.2.2.1,(x.2.2.2.1,x.2.2.2.2)))))[(Int.toNat i)]?).bind fun y=>
 r (List.set (List.set ns (Int.toNat i) (x.1,(x.2.1,(x.2.2.1,(x.2.2.2.1,x.2.2.2.2))))) (Int.toNat i) (y.1,(tg,(y.2.2.1,(y.2.2.2.1,y.2.2.2.2)))))) none
noncomputable def T6 {R:Type} (r:bL->Option R) (n:Nat) (ns:bL) (i:Int) (x:Int×ci) (s:List UInt8):Option R:=
 (cond (!(x.2.1==([]:List UInt8))) (some (!(x.2.1==([33]:List UInt8))))<|some false).bind fun b=>
 cond b (SX r ns i x x.2.1)<|(cond (x.2.1==([33]:List UInt8)) (some true)<|cond (x.1 !=1) (some true)<|some (!x.2.2.2.2)).bind fun b=>
 cond b ((GA (n+5) x.1).bind fun y=>
 SX r ns i x y.1)<|(Hg (n+1) s).bind fun y=>
 SX r ns i x y.1
noncomputable def qg:Nat->Int->bL->be->bL->be->Option (i7×(m4×gt))
 |0,_,_,_,_,_=>none
 |n+1,t11,c64_0,c64_1,c68_0,c68_1=>
 cond (aD t11 (len c68_0)) (cond ((ak 0 t11) &&(aD t11 (len c68_0))) ((c68_0[(Int.toNat t11)]?).bind fun x41=>
 cond (x41.1 !=1) (T6 (fun a=>qg n (zao (t11+1)) c64_0 c64_1 a c68_1) n c68_0 t11 x41 ([]:List UInt8))<|T6 (fun a=>qg n (zao (t11+1)) c64_0 c64_1 a c68_1) n c68_0 t11 x41 x41.2.2.1) none)<|some (((),((),())),((c64_0,(c64_1,())),((c68_0,(c68_1,())),())))
theorem Nz:LZ ⟨4,12,none,PY,[(.exit 0,⟨[EQ 2 64,EQ 9 68],[(64,ol),(68,.cells 25 [.tF 69 40 bT 3 3 am .any,.all 70 3 am .any] true)],69,71,1005⟩)],6,fun n x=>qg n x.1.2.2.1 x.2.1.1 x.2.1.2.1 x.2.2.1.1 x.2.2.1.2.1,[65],[64]⟩:=fG ((ab.nil.fn Ms).fn K8)
noncomputable def kQ (n:Nat) (g:ip) (o:(Int×m6)):Option bv:=
 (alive n ).bind fun y0=>
 (T7 (n+8) (g.1,g.2)).bind fun y1=>
 cond (!y0.1) (some (y0.1,()))<|cond y1.1 (some (y0.1,()))<|cond (aD 1 (len g.2)) (some (y0.1,()))<|(events (n+1) (g.1,g.2) (o.1,(o.2.1,(o.2.2.1,(o.2.2.2.1,o.2.2.2.2))))).bind fun y2=>
 cond (y2.2.1 !=0) (some (true,()))<|(iH (n+5) y2.1 200 20000).bind fun y3=>
 cond (y3.1.1 !=0) (some (false,()))<|(qg (n+4) 0 g.1 g.2 y3.2.1.1 y3.2.1.2.1).bind fun y61=>
 (AN (n+1) (g.1,g.2) (y61.2.2.1.1,y61.2.2.1.2.1)).bind fun y62=>
 some (y62.1,())
noncomputable def gN:fH:=⟨4,[(true,(.cons (.bH bT) (.bH am))),(true,(.cons am (.cons am (.cons am (.cons .bool .bool)))))],[(false,.bool)],10,fun n x=>kQ n x.1 x.2.1⟩
theorem sI:FZ gN:=Tj (((((ab.nil.fn MD).fn Sr).fn yu).lp Nz).fn NK) (eb.nil.pz BZ)
end Go.Proofs.YteknbnkjelmfaaaGreatDoor
namespace Go.Proofs.YteknbnkjelmfaaaGreatDoor.V
open Go Go.Iv Go.Gv
theorem eh {α:Type} (l:List α) (k:Nat):List.take (l.length - k) (List.drop k l)=List.drop k l:=by
 rw [List.take_of_length_le];rw [List.length_drop];exact zal _
theorem aV {n:Nat} (h:n<=1000000):room n=true:=Gc (Nat.le_trans h (by decide))
def pre:List UInt8->List UInt8->Bool
 | [],_=>true
 |_::_,[]=>false
 |a::r,b::s=>(b==a) &&pre r s
theorem oH:∀ (x s:List UInt8),pre x s=true->x.length<=s.length
 | [],_,_=>Nat.zero_le _
 |_::_,[],h=>by cases h
 |a::r,b::s,h=>by
  simp only [pre,zae] at h;have:=oH r s h.2;simp only [zad];omega
theorem BG:∀ (x s:List UInt8),x.length<=s.length->(List.take x.length s==x)=pre x s
 | [],_,_=>rfl
 |_::_,[],h=>by simp at h
 |a::r,b::s,h=>by
  simp only [zad] at h;have:=BG r s (by omega);simp only [zad,List.take_succ_cons,pre,←this];rfl
theorem ym:∀ (x s:List UInt8),s.length<x.length->pre x s=false
 | [],_,h=>by simp at h
 |_::_,[],h=>rfl
 |a::r,b::s,h=>by
  simp only [zad] at h;simp only [pre,ym r s (by omega),Bool.and_false]
theorem eN (n:Nat) (s x:List UInt8):fK n s x=some (pre x s,()):=by
 unfold fK len;by_cases h:x.length<=s.length
 .simp only [af (show ((x.length:Nat):Int)<=(s.length:Nat) by omega),zac,List.drop_zero,Nat.sub_zero,Int.toNat_natCast,BG x s h]
 .simp only [eA (show ((s.length:Nat):Int)<(x.length:Nat) by omega),zab,ym x s (by omega)]
theorem gV (n:Nat) (s x:List UInt8):ki n s x=some (pre x s,()):=eN n s x
theorem fA (n:Nat) (s x:List UInt8):hasPrefix n s x=some (pre x s,()):=by
 unfold hasPrefix;rw [eN];rfl
theorem sJ (n:Nat) (s x:List UInt8):trimPrefix n s x=some (bif pre x s then List.drop x.length s else s,()):=by
 unfold trimPrefix len;rw [eN];cases h:pre x s with
 |false=>rfl
 |true=>
  have:=oH x s h;simp only [zaa,zac,af (show ((x.length:Nat):Int)<=(s.length:Nat) by omega),Int.toNat_natCast,eh]
theorem lF (n:Nat) (s x:List UInt8):jL n s x=some (bif pre x s then List.drop x.length s else s,pre x s,()):=by
 unfold jL len;rw [eN];cases h:pre x s with
 |false=>rfl
 |true=>
  have:=oH x s h;simp only [zaa,zag,zab,zac,af (show ((x.length:Nat):Int)<=(s.length:Nat) by omega),Int.toNat_natCast,eh]
def iS:List UInt8->List UInt8×Bool
 | []=>([],false)
 |c::r=>bif c==45 then (r,true) else bif c==43 then (r,false) else (c::r,false)
theorem Si (a c:UInt8) (r:List UInt8):pre [a] (c::r)=(c==a):=by simp only [pre,Bool.and_true]
theorem jf (n:Nat) (s:List UInt8):signed n s=some ((iS s).1,(iS s).2,()):=by
 unfold signed;rw [fA,sJ];cases s with
 |nil=>rfl
 |cons c r=>
  simp only [zaa,Si,iS,eh,af (show (1:Int)<=len (c::r) by simp only [len,zad];omega)];cases c==45<;>cases c==43<;>rfl
theorem kR (n:Nat) (s:List UInt8):jh n s=some ((iS s).1,(iS s).2,()):=by
 unfold jh;rw [gV,gV];cases s with
 |nil=>rfl
 |cons c r=>
  simp only [zaa,Si,iS,eh,af (show (1:Int)<=len (c::r) by simp only [len,zad];omega),List.getElem?_cons_zero];cases h:c==45<;>cases c==43<;>rfl
theorem tK (s:List UInt8):(iS s).1.length<=s.length:=by
 cases s with
 |nil=>exact zal _
 |cons c r=>
  simp only [iS];cases c==45<;>cases c==43<;>simp
def AK (c:UInt8):Bool:=Nat.ble 48 c.toNat &&Nat.ble c.toNat 57
def run (s:List UInt8):List UInt8:=s.takeWhile AK
theorem ph (s:List UInt8):(run s).length<=s.length:=(List.takeWhile_prefix AK).length_le
theorem EM (s:List UInt8):∀ (m i n:Nat),i+m=s.length->s.length<=1000000->m+1<=n->qQ n s (i:Int)=some ((((i+(run (s.drop i)).length:Nat):Int),()),()):=by
 intro m
 induction m with
 |zero=>
  intro i n h hs hn;obtain ⟨n,rfl⟩:=pS n;simp only [qQ,len,aC (show ((s.length:Nat):Int)<=(i:Int) by omega),zab,zaa,List.drop_eq_nil_of_le (show s.length<=i by omega)];rfl
 |succ m ih=>
  intro i n h hs hn;obtain ⟨n,rfl⟩:=pS n;have hi:i<s.length:=by omega
  have w:=wS i;have z:Go.Iv.ak (0:Int) (i:Int)=true:=af (by omega);rw [List.drop_eq_getElem_cons hi];simp only [qQ,len,ao (show (i:Int)<((s.length:Nat):Int) by omega),z,zac,Int.toNat_natCast,zam hi,zaa,w];generalize hc:s[i]=c;simp only [run,List.takeWhile,AK];have e1:UInt8.toNat 48=48:=rfl;have e2:UInt8.toNat 57=57:=rfl;rw [e1,e2];cases h1:Nat.ble 48 c.toNat with
  |false=>simp only [zab,zaa,Bool.false_and];rfl
  |true=>
   simp only [zac,zaa,Bool.true_and];cases h2:Nat.ble c.toNat 57 with
   |false=>simp only [zab];rfl
   |true=>
    simp only [zac];rw [ih (i+1) n (by omega) hs (by omega)];simp only [run,zad]
    congr 4;omega
theorem nG (n:Nat) (s:List UInt8) (hs:s.length<=1000000) (hn:s.length<=n):count n s=some (((run s).length:Int),()):=by
 unfold count;have:=EM s s.length 0 (n+1) (by omega) hs (by omega);rw [show (0:Int)=((0:Nat):Int) from rfl,this,List.drop_zero,Nat.zero_add];rfl
theorem Nq (s:List UInt8) (j:Int):∀ (m i n:Nat),i+m=s.length->s.length<=1000000->m+1<=n->yx n s (i:Int) j=some ((s,(((i+(run (s.drop i)).length:Nat):Int),(j,()))),()):=by
 intro m
 induction m with
 |zero=>
  intro i n h hs hn;obtain ⟨n,rfl⟩:=pS n;simp only [yx,len,aC (show ((s.length:Nat):Int)<=(i:Int) by omega),zab,zaa,List.drop_eq_nil_of_le (show s.length<=i by omega)];rfl
 |succ m ih=>
  intro i n h hs hn;obtain ⟨n,rfl⟩:=pS n;have hi:i<s.length:=by omega
  have w:=wS i;have z:Go.Iv.ak (0:Int) (i:Int)=true:=af (by omega);rw [List.drop_eq_getElem_cons hi];simp only [yx,len,ao (show (i:Int)<((s.length:Nat):Int) by omega),z,zac,Int.toNat_natCast,zam hi,zaa,w];generalize hc:s[i]=c;simp only [run,List.takeWhile,AK];have e1:UInt8.toNat 48=48:=rfl;have e2:UInt8.toNat 57=57:=rfl;rw [e1,e2];cases h1:Nat.ble 48 c.toNat with
  |false=>simp only [zab,zaa,Bool.false_and];rfl
  |true=>
   simp only [zac,zaa,Bool.true_and];cases h2:Nat.ble c.toNat 57 with
   |false=>simp only [zab];rfl
   |true=>
    simp only [zac];rw [ih (i+1) n (by omega) hs (by omega)];simp only [run,zad]
    congr 5;omega
theorem pU (s:List UInt8):s.take (run s).length=run s:=by
 have h:=(List.takeWhile_prefix AK (l:=s));exact (List.prefix_iff_eq_take.1 h).symm
theorem qO (n:Nat) (s:List UInt8) (i:Nat) (hi:i<=s.length) (hs:s.length<=1000000) (hn:s.length<=n):
  wL n s (i:Int)=some (run (s.drop i),((i+(run (s.drop i)).length:Nat):Int),()):=by
 unfold wL;have h:=ph (s.drop i);rw [List.length_drop] at h;rw [Nq s (i:Int) (s.length - i) i (n+1) (by omega) hs (by omega)]
 simp only [zaa,len,af (show (0:Int)<=((i+(run (s.drop i)).length:Nat):Int) by omega),af (show ((i+(run (s.drop i)).length:Nat):Int)<=((s.length:Nat):Int) by omega),
  af (show (0:Int)<=(i:Int) by omega),Int.toNat_natCast,af (show (i:Int)<=((i+(run (s.drop i)).length:Nat):Int) by omega),zai,zac]
 rw [Nat.add_sub_cancel_left,pU]
theorem UX (n:Nat) (c:UInt8):∀ (s:List UInt8) (n:Nat),s.length+1<=n->tS n s c=some ((s.dropWhile (· ==c),()),())
 | [],n,h=>by
  obtain ⟨n,rfl⟩:=pS n;rfl
 |x::r,n,h=>by
  obtain ⟨n,rfl⟩:=pS n;simp only [zad] at h
  simp only [tS,len,ao (show (0:Int)<(((x::r).length:Nat):Int) by simp only [zad];omega),af (show (1:Int)<=(((x::r).length:Nat):Int) by simp only [zad];omega),
   cond_true,List.getElem?_cons_zero,zaa,eh,List.dropWhile]
  cases x==c with
  |false=>rfl
  |true=>exact UX n c r n (by omega)
theorem jd (n:Nat) (s:List UInt8) (c:UInt8) (hn:s.length<=n):fp n s c=some (s.dropWhile (· ==c),()):=by
 unfold fp;rw [UX 0 c s (n+1) (by omega)];rfl
def dX (s:List UInt8):List UInt8:=(s.reverse.dropWhile (· ==48)).reverse
theorem kz (s:List UInt8) (x:UInt8):dX (s++ [x])=bif x==48 then dX s else s++ [x]:=by
 unfold dX;rw [List.reverse_append];simp only [List.reverse_cons,List.reverse_nil,List.nil_append,List.singleton_append,List.dropWhile];cases x==48 with
 |false=>simp
 |true=>rfl
theorem I4 (s:List UInt8):(dX s).length<=s.length:=by
 unfold dX;rw [List.length_reverse];have:=(List.dropWhile_suffix (· ==(48:UInt8)) (l:=s.reverse)).length_le
 rwa [List.length_reverse] at this
theorem last_cases {α:Type} (s:List α):s= []\/∃ r x,s=r++ [x]:=by
 rcases List.eq_nil_or_concat s with h |⟨r,x,h⟩
 .exact .inl h
 .exact .inr ⟨r,x,by rw [h,List.concat_eq_append]⟩
theorem U8:∀ (m:Nat) (s:List UInt8) (n:Nat),s.length=m->s.length<=1000000->m+1<=n->vy n s 48=some ((dX s,()),()):=by
 intro m
 induction m with
 |zero=>
  intro s n h _ hn;obtain ⟨n,rfl⟩:=pS n;cases s with
  |nil=>rfl
  |cons=>cases h
 |succ m ih=>
  intro s n h hs hn;obtain ⟨n,rfl⟩:=pS n;rcases last_cases s with rfl |⟨r,x,rfl⟩
  .cases h
  have hl:(r++ [x]).length=r.length+1:=by simp
  rw [hl] at h hs;have w:zao ((((r.length+1:Nat)):Int) - 1)=(r.length:Int):=by rw [aj]<;>omega
  have hg:(r++ [x])[r.length]? =some x:=by simp
  simp only [vy,len,hl,w,ao (show (0:Int)<((r.length+1:Nat):Int) by omega),af (show (0:Int)<=(r.length:Int) by omega),af (show (r.length:Int)<=((r.length+1:Nat):Int) by omega),zac,Int.toNat_natCast,hg,zaa,zai,Nat.sub_zero,List.drop_zero,
   kz,List.take_left]
  cases x==48 with
  |false=>rfl
  |true=>exact ih r n (by omega) (by omega) (by omega)
theorem nP (n:Nat) (s:List UInt8) (hs:s.length<=1000000) (hn:s.length<=n):dJ n s 48=some (dX s,()):=by
 unfold dJ;rw [U8 _ s (n+1) rfl hs (by omega)];rfl
end Go.Proofs.YteknbnkjelmfaaaGreatDoor.V
