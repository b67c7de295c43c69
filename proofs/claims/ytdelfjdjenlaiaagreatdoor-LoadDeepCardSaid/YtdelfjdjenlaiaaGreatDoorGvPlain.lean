/- Plain names for what is computed on whole numbers and bytes, and laws of these. -/
import Derived.Test.YtdelfjdjenlaiaaGreatDoorGvBase
import Derived.Laws.BitsLemmas
import Derived.Laws.Bits64
set_option linter.unusedSimpArgs false
set_option linter.unusedVariables false
namespace Go.Gv
open Go Go.Iv
def ub (c:UInt8):Int:=((c.toNat:Nat):Int)
def len {α:Type} (l:List α):Int:=((l.length:Nat):Int)
def room (n:Nat):Bool:=Nat.ble n roomy
theorem bw {x:Int} (h1: -9223372036854775808<=x) (h2:x<=9223372036854775807):zal x=x:=by
 show Go.IntKind.wrap (.i64) x=x
 rw [Go.IntKind.wrap_i64];omega
theorem XS (c:UInt8):0<=ub c/\ub c<256:=by
 have:=c.toNat_lt;unfold ub;omega
theorem NK (c:UInt8):IntKind.wrap .i32 (ub c)=ub c:=by
 have:=XS c;rw [IntKind.wrap_i32];omega
theorem u7 {n:Nat} (h:n<=roomy):room n=true:=by rw [room,Nat.ble_eq];exact h
theorem bD {a b:Int} (h:a<b):aR a b=true:=by rw [mK];exact decide_eq_true h
theorem bC {a b:Int} (h:b<=a):aR a b=false:=by rw [mK];exact decide_eq_false (by omega)
theorem bV {a b:Int} (h:a<=b):aQ a b=true:=by rw [kI];exact decide_eq_true h
theorem jL {a b:Int} (h:b<a):aQ a b=false:=by rw [kI];exact decide_eq_false (by omega)
end Go.Gv
/- More laws of whole numbers' bits. -/
namespace Go.Gv
open Go Go.Iv
end Go.Gv
