/- Plain names for what is computed on whole numbers and bytes, and laws of these. -/
import Derived.Test.YteknbnkjelmfaaaGreatDoorGvBase
import Derived.Laws.BitsLemmas
import Derived.Laws.Bits64
set_option linter.unusedSimpArgs false
set_option linter.unusedVariables false
namespace Go.Gv
open Go Go.Iv
def C1 (k:IntKind) (x y:Int):Int:=k.wrap (((BitVec.ofInt k.bits x &&&BitVec.ofInt k.bits y).toNat:Nat):Int)
def ub (c:UInt8):Int:=((c.toNat:Nat):Int)
def len {α:Type} (l:List α):Int:=((l.length:Nat):Int)
def room (n:Nat):Bool:=Nat.ble n roomy
theorem af {x:Int} (h1: -9223372036854775808<=x) (h2:x<=9223372036854775807):zap x=x:=by
 show Go.IntKind.wrap (.i64) x=x
 rw [Go.IntKind.wrap_i64];omega
theorem iz (c:UInt8):0<=ub c/\ub c<256:=by
 have:=c.toNat_lt;unfold ub;omega
theorem dK (c:UInt8):zap (ub c)=ub c:=by
 have:=iz c;exact af (by omega) (by omega)
theorem Lx (n:Int) (h₀:0<=n) (h₁:n<2^63):IntKind.i64.wrap n=n:=by rw [IntKind.wrap_i64];omega
theorem oS (i:Nat) (hi:i<=63) (x:Int) (h₀:0<=x) (h₁:x<2^63):C1 .i64 x (2^i - 1)=x%2^i:=bits_mask .i64 63 (by decide) Lx i hi x h₀ h₁
theorem JX {n:Nat} (h:n<=roomy):room n=true:=by rw [room,Nat.ble_eq];exact h
theorem aB {a b:Int} (h:a<b):aX a b=true:=by rw [eO];exact decide_eq_true h
theorem aR {a b:Int} (h:b<=a):aX a b=false:=by rw [eO];exact decide_eq_false (by omega)
theorem ao {a b:Int} (h:a<=b):au a b=true:=by rw [dc];exact decide_eq_true h
theorem kZ {a b:Int} (h:b<a):au a b=false:=by rw [dc];exact decide_eq_false (by omega)
end Go.Gv
/- More laws of whole numbers' bits. -/
namespace Go.Gv
open Go Go.Iv
end Go.Gv
