/- Plain names for what is computed on whole numbers and bytes, and laws of these. -/
import Derived.Test.YtnddpppljnjmcaaGreatDoorGvBase
import Derived.Laws.BitsLemmas
import Derived.Laws.Bits64
set_option linter.unusedSimpArgs false
set_option linter.unusedVariables false
namespace Go.Gv
open Go Go.Iv
def A1 (k:IntKind) (x y:Int):Int:=k.wrap (((BitVec.ofInt k.bits x &&&BitVec.ofInt k.bits y).toNat:Nat):Int)
def ub (c:UInt8):Int:=((c.toNat:Nat):Int)
def len {α:Type} (l:List α):Int:=((l.length:Nat):Int)
def room (n:Nat):Bool:=Nat.ble n roomy
theorem ae {x:Int} (h1: -9223372036854775808≤x) (h2:x≤9223372036854775807):IntKind.wrap .i64 x=x:=by
 rw [IntKind.wrap_i64];omega
theorem gV (c:UInt8):0≤ub c∧ub c<256:=by
 have:=c.toNat_lt;unfold ub;omega
theorem fR (c:UInt8):IntKind.wrap .i64 (ub c)=ub c:=by
 have:=gV c;exact ae (by omega) (by omega)
theorem KC (n:Int) (h₀:0≤n) (h₁:n<2^63):IntKind.i64.wrap n=n:=by rw [IntKind.wrap_i64];omega
theorem pz (i:Nat) (hi:i≤63) (x:Int) (h₀:0≤x) (h₁:x<2^63):A1 .i64 x (2^i - 1)=x%2^i:=bits_mask .i64 63 (by decide) KC i hi x h₀ h₁
theorem ju {n:Nat} (h:n≤roomy):room n=true:=by rw [room,Nat.ble_eq];exact h
theorem az {a b:Int} (h:a<b):aO a b=true:=by rw [gu];exact decide_eq_true h
theorem aD {a b:Int} (h:b≤a):aO a b=false:=by rw [gu];exact decide_eq_false (by omega)
theorem ak {a b:Int} (h:a≤b):aB a b=true:=by rw [db];exact decide_eq_true h
theorem gO {a b:Int} (h:b<a):aB a b=false:=by rw [db];exact decide_eq_false (by omega)
end Go.Gv
/- More laws of whole numbers' bits. -/
namespace Go.Gv
open Go Go.Iv
end Go.Gv
