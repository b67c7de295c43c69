/- Which temporaries of each function outlive a region; the shapes of the program's types; the listed tables. -/
import Derived.Test.YteknbnkjelmfaaaGreatDoorGvSpecX
set_option linter.unusedSimpArgs false
set_option linter.unusedVariables false
namespace Go.Proofs.YteknbnkjelmfaaaGreatDoor
open Go Go.Iv Go.Gv
abbrev ac:T2:=.one (.int .i64)
abbrev am:Sh:=.int .i64
abbrev ap:T1:=.int .i64
theorem pS (n:Nat) (h:0<n:=by omega):∃ k,n=k+1:=⟨n - 1,by omega⟩
theorem wS (i:Nat) (h:i<9223372036854775807:=by omega):zao ((i:Int)+1)=((i+1:Nat):Int):=by rw [aj]<;>omega
theorem sv {α:Type} {l r:List α} {i:Nat} {x:α} (h:l.drop i=x::r):l[i]? =some x:=by rw [←List.head?_drop,h];rfl
theorem sy {α:Type} {l r:List α} {i:Nat} {x:α} (h:l.drop i=x::r):l.drop (i+1)=r:=by rw [←zak,h];rfl
theorem tC {α:Type} {l r:List α} {i:Nat} {x:α} (h:l.drop i=x::r):l.length=i+(r.length+1):=by
 have:=congrArg List.length h;simp at this;omega
theorem ox {α:Type} {l:List α} {i:Nat} (h:l.drop i= []):l.length<=i:=by simpa using h
theorem fX {α:Type} {a:Option α} {b c:α} (h:a=some b) (e:b=c:=by kernel_rfl):a=some c:=h.trans (congrArg some e)
def Tq:List (List Nat):= [[],[],[],[0,1,2,3,4,5,6,7,8],[0,1,2,3,4,5,6,7,8,9,10,11,12,13],[0,1,4,5,6,7,8,9,10,11,12,13,14,15,16],[0,1,4,5,6,7,8,9,10],[0,1,2,3],[0,1,2,3,4],[0,1,2,3,4,5,6,7,8,9,18,19,20],[0,2],[0,2,3,4,5,7,8,9,10,11,91,112,140],[0,1,2,6,7,8,9,10,11,12,13,14,15,16,17,40,91],[0,1,2,3,4,10],[0,1,2,3,4,5,6,7,8],[0,2,3],[0,1,4,5],[0,1,2,3,5,24,25,26],[0,1,2,3,6,7,8,25],[0,2,3,4,5],[0,2,3,4,5,19,20,25],[0,2,3,4],[0,2,3,4,5],[0,1,2,3,4,5,6,9,10],[0,1,4],[0,2,3],[0,2,4,6],[0,2,3,4,5,6,9],[0,1,2,3,4,5,6],[0,1,2,3,4,5,6,7,8,9,10,11,12,13,14],[0,1,2,3,4,5,6,7],[0,1,2,4,6,7,8,9],[0,1,2,19],[0,1,2,3,4],[0,1,3],[0,1,2,3,8,9,10,11,12,13],[0,1,2,3,4,5],[0,1,4,5,6,7,28,30,33,45],[0,2,3,4,5,6,19,20],[0,1,4],[0,2,3],[0,2,3,4,5,6],[0,2,3],[0,2],[0,1,2,6,7,8,9,17,46],[0,2,3,4,5,6,7,8],[0,2,3,4,5,6,7,8,9,10,11,12,13,14,20,21,27,28],[0,2],[0,2],[0,2],[0,1,4,5],[0,1,2,4,5,44],[0,1,2,3,6,7,8,9,10,11],[0,1,4],[0,2,3,5,7,8,9],[0,2],[0,1,2,4,5,6,8,33,34,35],[0,1,4],[0,1,2,3,4,6,10,11,12,13,14,43,44,45],[0,1,2,4,6,7],[0,2],[0,1,4,5],[0,2,3,4,5,6,7],[0,2],[0,2],[0,2],[0,1,4,5],[0,1,4,5],[0,2,3],[0,2,3],[0,2,3],[0,1,4,5,6,7,8,9],[0,1,2,6],[0,1,4,5,6],[0,1,4,5],[0,2,4],[0,1,4,5],[0,1,2,3,4,5,6,7,10,11],[2],[0,2,3,4,5,6,75],[0,2],[0,1,4],[0,1,2,6,7,13],[0,1,2,3,4,10],[0,1,4,5],[0,2],[0,2,3,4,5,6,7,8,9],[0,1,4],[0,1,2,6],[0,2],[0,1,4,5,6],[0,1,4,5,6,7],[0,2,3,4,5],[0,1,2,6,7,8],[0,1,2],[0,2],[0,2],[0,2,3],[0,2,3,5,7,8],[0,1,4],[0,2,4,5,6,7],[0,1,4,6,7,8,9],[0,2,3,6],[0,2,4,6,8],[0,2,3,4,5,6,9],[0,2],[0,1,3,4],[0,2,4,34,35,36],[0,1,4,5,6,7,9],[0,1,4,11,12],[0,1,4,5],[0,1,4],[0,2],[0,1,4],[0,2,3,5,6],[0,2,3,4,5,9],[0,2,3,4,5,6,7,8,9,10,11,12,13],[0,2,3,4,5,6,7,8,9,10,11,12],[0,2],[0,2,3,4],[0,2,3,4,5,6],[0,2,3],[0,2],[0,2],[0,2],[0,2,3],[0,1,4,5,6,7,8,9,10,11,12,13,14,15,16],[0,1,2,3,4,10,11,12,13,14,15,16,17,18],[0,1,2,6],[0,2],[0,1,2,3,4,5,9,11],[0,2],[0,1,4],[0,1,2,6],[0,1,2,3,4,5,6],[0,2],[0,1,4,5],[0,2,3],[0,1,4,5,6,8,9,30,31,32],[0,1,2,6,7],[0,2,3,4,5,6,7,17,18],[0,2,3],[0,2,3,4,5,6],[0,1,4],[0,2],[0,1,4],[0,2],[0,2],[0,2],[0,2],[0,2],[0,1,4],[0,1,4,6,8,9,10],[0,1,2,3,4],[0,1,2,3,6,7,8],[0,2,3],[0,1,4],[0,1,4,5],[0,1,2,6,7,8],[0,2,3,4,5],[0,2,3,4,5],[0,1,4,5,6],[0,1,4,5,6],[0,2,3,4,5],[0,1,4],[0,1,4],[0,2],[0,2],[0,2],[0,1,2,4,5,6,7,8],[0,2,3,4,5,6,7,8,9,10,11,12],[0,1,4,5,6,7,8,9,10,11,12,13],[0,1,4],[0,1,4],[0,2],[0,1,4],[0,2,3,4,5],[0,1,4],[0,1,4,5,6],[0,1,4],[0,1,4],[0,1,4,5,6],[0,2,3,4,5,6,8,9,10,47,48,49],[0,1,2,3,4,10,11],[0,1,4,5,7,8],[0,1,4],[],[0,2],[0,1,4,5,6,7,8,9,10],[0],[0,1,4],[0,1,4],[0,2,3,4,5,6],[0,1,2,6,7,8,9,10,11,16],[0,1,4],[0,1,4],[0,1,2,6],[0,1,2,6],[],[0,2,3,4,5,6,7,8],[],[0,1,4,5,6,7,8,9,10,11,12,13,14,15,16,175,176],[0,2],[0,1,2,6,7,8,9,10,11,12,13,15,16,17,85,99,100,101],[0,2,3],[0,2],[0,1,4],[0,2],[0,2],[0,2,3,4,5],[],[],[],[],[],[],[],[],[],[],[],[],[],[],[],[],[],[],[],[],[],[],[],[],[],[],[],[],[],[]]
def QY:List Nat:= [1,80,2,2,161,0,3,79,1]
def P5:List (Nat×List Nat):= [(52,[83886083]),(182,[75])]
def QP:List (Nat×List Nat)->Nat->List Nat
 | [],_=> []
 |(f,l)::r,k=>bif Nat.beq f k then l else QP r k
def hint:Hint:=fun f=>bif Nat.beq f jc then QY else bif Nat.beq f MN then [193] else bif Nat.beq f BO then [] else bif Nat.ble 2097152 f then QP P5 (Nat.sub f 2097152) else Tq.getD f []
def Vz:List (Option Sh):= [none,none,some am,some am,some .bool,some .byte,some .byte,some (.cons am (.cons am (.cons .bool .byte))),some (.cons am (.cons am (.cons .bool .byte))),some .str,some .str,some .str,some (.int .u64),some (.cons .str (.int .u64)),some (.cons .str (.int .u64)),none,none,none,none,none,none,some (.int .i32),some (.bH (.cons am (.cons .str (.cons .str (.cons (.bH am) .bool))))),some (.bH am),some (.cons (.bH (.cons am (.cons .str (.cons .str (.cons (.bH am) .bool))))) (.bH am)),some (.cons (.bH (.cons am (.cons .str (.cons .str (.cons (.bH am) .bool))))) (.bH am)),some (.cons am (.cons am (.cons am (.cons .bool .bool)))),some (.cons am (.cons am (.cons am (.cons .bool .bool)))),none,none,some (.bH (.cons am (.cons .str (.cons .str (.cons .str (.cons am .bool)))))),some am,none,none,none,none,none,none,none,some (.cons am (.cons .str (.cons .str (.cons (.bH am) .bool)))),some (.cons am (.cons .str (.cons .str (.cons (.bH am) .bool)))),none,none,none,some (.cons am (.cons .str (.cons .str (.cons .str (.cons am .bool))))),some (.cons am (.cons .str (.cons .str (.cons .str (.cons am .bool))))),none,none,none,none,none,none,none,none,none,none,some (.bH (.cons .bool (.cons .bool (.cons .bool am)))),none,none,none,some (.cons .bool (.cons .bool (.cons .bool am))),some (.cons .bool (.cons .bool (.cons .bool am))),none,none,some (.bH (.cons .str am)),some (.cons .str am),some (.cons .str am),none,none,none,none,none,none,none,none,none,none,none,none,none,none,none,some (.cons .bool (.cons .str (.cons am am))),some (.cons .bool (.cons .str (.cons am am))),none,none,none,none,some (.bH .bool),none,none,none,none,none,none,none,some (.bH .byte),none,none,none,none,none,none,none,none,some (.bH .str),none,none,none,none,none,none,none,none,none,none,none,none,none,none,some (.cons .byte .byte),some (.cons .byte .byte),none,some (.int .u64),none,none,none,none,some (.int .u64),none,none,none,none,none,none,none,none,none,none,none,none,none,none,none,none,none,none,none,none,none,none,some (.int .u32),none,none,none,none,none,none,some (.bH am),none,none,none,none,none,none,none,none,none,none,none,none,none,none,none,none,none,none,none,none,none,none,none,none,none,some am,none,none,none,none,none,none,none,none,none,none,none,none,none,none,none,none,none,none,some .str,some .str,none,none,none,none,none,none,some .byte,some .byte,none,some (.int .i32),some (.int .i32),none,none]
def Ud:List UInt8:= [0,1,28,2,29,14,24,3,30,22,20,15,25,17,4,8,31,27,13,23,21,19,16,7,26,12,18,6,11,5,10,9]
def UN:List UInt8:= [0,1,56,2,57,49,28,3,61,58,42,50,38,29,17,4,62,47,59,36,45,43,51,22,53,39,33,30,24,18,12,5,63,55,48,27,60,41,37,16,46,35,44,21,52,32,23,11,54,26,40,15,34,20,31,10,25,14,19,9,13,8,7,6]
def Uo:List Int:= [1,10,100,1000,10000,100000,1000000,10000000,100000000,1000000000,10000000000,100000000000,1000000000000,10000000000000,100000000000000,1000000000000000,10000000000000000,100000000000000000,1000000000000000000,10000000000000000000]
def Uj:List (UInt8×UInt8):= [(128,191),(160,191),(128,159),(144,191),(128,143),(0,0),(0,0),(0,0),(0,0),(0,0),(0,0),(0,0),(0,0),(0,0),(0,0),(0,0)]
def Ug:List UInt8:=Go.Pinned.utf8FirstZ.map UInt8.ofNat
def Uw:List (Nat×Tb):= [(3,⟨.byte,Ud⟩),(4,⟨.byte,UN⟩),(2,⟨.int .u64,Uo⟩),(1,⟨(.cons .byte .byte),Uj⟩),(0,⟨.byte,Ug⟩)]
def s8:bU:=⟨fun t=>Vz.getD t none,NJ Uw,[(40,3,3)],[]⟩
abbrev bL:Type:=(List (Int×(List UInt8×(List UInt8×(List Int×Bool)))))
abbrev gQ:Type:=(List (Int×(List UInt8×(List UInt8×(List UInt8×(Int×Bool))))))
abbrev mH:Type:=(List (Int×List UInt8))
abbrev bT:Sh:=(.cons am (.cons .str (.cons .str (.cons (.bH am) .bool))))
abbrev ko:Sh:=(.cons am (.cons .str (.cons .str (.cons .str (.cons am .bool)))))
abbrev hIn:Sh:=(Sh.int Go.IntKind.i64)
abbrev be:Type:=(List Int)
abbrev bi:Type:=(bL×(be×(Int×(Int×(Int×(Bool×(Bool×(Unit×(Unit×(Int×(gQ×Unit)))))))))))
abbrev bv:Type:=(Bool×Unit)
abbrev ce:Type:=(List UInt8)
abbrev ci:Type:=(List UInt8×(List UInt8×(List Int×Bool)))
abbrev co:Type:=(Int×Int)
abbrev dg:Type:=(Int×Unit)
abbrev d6:Type:=(be×Unit)
abbrev d7:Type:=(Unit×Unit)
abbrev d9:Type:=(dg×(bi×((List co)×(mH×Unit))))
abbrev gc:Type:=(List UInt8×(List UInt8×(List UInt8×(Int×Bool))))
abbrev gt:Type:=((bL×d6)×Unit)
abbrev ip:Type:=(List (Int×ci)×List Int)
abbrev i6:Type:=(List UInt8×Int)
abbrev i7:Type:=(Unit×d7)
abbrev i8:Type:=(List co)
abbrev jp:Type:=(ce×Unit)
abbrev kw:Type:=(Bool×(List UInt8×co))
abbrev lc:Type:=((Int×(ce×(ce×(be×bv))))×Unit)
abbrev ls:Type:=(Int×List UInt8)
abbrev lw:Type:=(Int×Bool)
abbrev mt:Type:=((dg×Unit)⊕(dg×Unit))
abbrev m0:Type:=(d7⊕(bv×Unit))
abbrev m4:Type:=(bL×d6)
abbrev m5:Type:=(List Bool)
abbrev m6:Type:=(Int×(Int×(Bool×Bool)))
abbrev m7:T1:=.fix (TV.raw (Go.Value.slice (Option.none) 0 0))
abbrev m8:OT:=.cells 23 [.aB am] true
abbrev m9:OT:=.cells 3 [ap] true
abbrev ol:OT:=.cells 25 [.aB bT,.aB am] true
abbrev pi:OT:=.cells 4 [.bool] true
abbrev qr:OT:=.cells 9 [.str] true
abbrev sm (a b c:Nat):OT:=.cells 53 [.aB bT,.aB am,ap,ap,ap,.bool,.bool,.fix (TV.mp a),.fix (TV.mp b),ap,.all c 45 ko .any] true
abbrev ul:OT:=.cells 40 [ap,.str,.str,.aB am,.bool] true
abbrev ut:OT:=.cells 49 [.fix (TV.ptr 66 0)] true
abbrev v6:OT:=.cells 27 [ap,ap,ap,.bool,.bool] true
abbrev wd:OT:=.cells 53 [.aB bT,.aB am,ap,ap,ap,.bool,.bool,.fix TV.undef,.fix TV.undef,ap,.all 67 45 ko .any] true
abbrev wn:OT:=.cells 83 [.bool,.str,ap,ap] true
abbrev wp:OT:=.cells 25 [m7,m7] true
abbrev ww (a b:Nat):OT:=.cells 25 [.tF a 40 bT 3 3 am .any,.all b 3 am .ex] true
abbrev AC (a:Nat):OT:=.cells 25 [.all a 40 bT .ex,m7] true
abbrev Do (a b:Nat):OT:=.cells 25 [.all a 40 bT .any,.all b 3 am .any] true
abbrev EQ (a b:Nat):Nat×T2:=(a,.one (.fix (TV.ptr b 0)))
abbrev FS (a b:Nat) (c:Em):Nat×T2:=(a,.one (.all b 3 am c))
end Go.Proofs.YteknbnkjelmfaaaGreatDoor
