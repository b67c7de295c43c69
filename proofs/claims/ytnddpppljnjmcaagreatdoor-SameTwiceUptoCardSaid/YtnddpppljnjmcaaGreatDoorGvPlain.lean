/- Plain names for what is computed on whole numbers and bytes, and laws of these. -/
import Derived.Test.YtnddpppljnjmcaaGreatDoorGvBase
import Derived.Laws.BitsLemmas
import Derived.Laws.Bits64
set_option linter.unusedSimpArgs false
set_option linter.unusedVariables false
namespace Go.Gv
open Go Go.Iv
def andI (k:IntKind) (x y:Int):Int:=k.wrap (((BitVec.ofInt k.bits x &&&BitVec.ofInt k.bits y).toNat:Nat):Int)
def ub (c:UInt8):Int:=((c.toNat:Nat):Int)
def len {α:Type} (l:List α):Int:=((l.length:Nat):Int)
def room (n:Nat):Bool:=Nat.ble n roomy
theorem wrap_id {x:Int} (h1: -9223372036854775808≤x) (h2:x≤9223372036854775807):IntKind.wrap .i64 x=x:=by
 rw [IntKind.wrap_i64];omega
theorem ub_lt (c:UInt8):0≤ub c∧ub c<256:=by
 have:=c.toNat_lt;unfold ub;omega
theorem ub_wrap (c:UInt8):IntKind.wrap .i64 (ub c)=ub c:=by
 have:=ub_lt c;exact wrap_id (by omega) (by omega)
theorem wraps_i64 (n:Int) (h₀:0≤n) (h₁:n<2^63):IntKind.i64.wrap n=n:=by rw [IntKind.wrap_i64];omega
theorem andI_i64 (i:Nat) (hi:i≤63) (x:Int) (h₀:0≤x) (h₁:x<2^63):andI .i64 x (2^i - 1)=x%2^i:=bits_mask .i64 63 (by decide) wraps_i64 i hi x h₀ h₁
theorem room_ok {n:Nat} (h:n≤roomy):room n=true:=by rw [room,Nat.ble_eq];exact h
theorem ilt_t {a b:Int} (h:a<b):ilt a b=true:=by rw [ilt_eq];exact decide_eq_true h
theorem ilt_f {a b:Int} (h:b≤a):ilt a b=false:=by rw [ilt_eq];exact decide_eq_false (by omega)
theorem ile_t {a b:Int} (h:a≤b):ile a b=true:=by rw [ile_eq];exact decide_eq_true h
theorem ile_f {a b:Int} (h:b<a):ile a b=false:=by rw [ile_eq];exact decide_eq_false (by omega)
end Go.Gv
/- More laws of whole numbers' bits. -/
namespace Go.Gv
open Go Go.Iv
end Go.Gv
