/- Plain names for what is computed on whole numbers and bytes, and laws of these. -/
import Derived.Test.YteknbnkjelmfaaaGreatDoorGvPtrX
import Derived.Laws.BitsLemmas
import Derived.Laws.Bits64
set_option linter.unusedSimpArgs false
set_option linter.unusedVariables false
namespace Go.Gv
open Go Go.Iv
def zd (k:IntKind) (x y:Int):Int:=k.wrap (((BitVec.ofInt k.bits x &&&BitVec.ofInt k.bits y).toNat:Nat):Int)
def ub (c:UInt8):Int:=((c.toNat:Nat):Int)
def len {α:Type} (l:List α):Int:=((l.length:Nat):Int)
def room (n:Nat):Bool:=Nat.ble n roomy
theorem aj {x:Int} (h1: -9223372036854775808<=x) (h2:x<=9223372036854775807):zao x=x:=by
 show Go.IntKind.wrap (.i64) x=x
 rw [Go.IntKind.wrap_i64];omega
theorem iG (c:UInt8):0<=ub c/\ub c<256:=by
 have:=c.toNat_lt;unfold ub;omega
theorem dR (c:UInt8):zao (ub c)=ub c:=by
 have:=iG c;exact aj (by omega) (by omega)
theorem Iu (n:Int) (h₀:0<=n) (h₁:n<2^63):IntKind.i64.wrap n=n:=by rw [IntKind.wrap_i64];omega
theorem oD (i:Nat) (hi:i<=63) (x:Int) (h₀:0<=x) (h₁:x<2^63):zd .i64 x (2^i - 1)=x%2^i:=bits_mask .i64 63 (by decide) Iu i hi x h₀ h₁
theorem Gc {n:Nat} (h:n<=roomy):room n=true:=by rw [room,Nat.ble_eq];exact h
theorem ao {a b:Int} (h:a<b):aD a b=true:=by rw [fu];grind
theorem aC {a b:Int} (h:b<=a):aD a b=false:=by rw [fu];grind
theorem af {a b:Int} (h:a<=b):ak a b=true:=by rw [dn];grind
theorem eA {a b:Int} (h:b<a):ak a b=false:=by rw [dn];grind
end Go.Gv
/- More laws of whole numbers' bits. -/
namespace Go.Gv
open Go Go.Iv
end Go.Gv
