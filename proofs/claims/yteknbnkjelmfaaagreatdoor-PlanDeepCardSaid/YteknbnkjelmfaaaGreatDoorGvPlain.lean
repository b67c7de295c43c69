/- Plain names for what is computed on whole numbers and bytes, and laws of these. -/
import Derived.Test.YteknbnkjelmfaaaGreatDoorGvBase
import Derived.Laws.BitsLemmas
import Derived.Laws.Bits64
set_option linter.unusedSimpArgs false
set_option linter.unusedVariables false
namespace Go.Gv
open Go Go.Iv
def andI (k : IntKind) (x y : Int) : Int := k.wrap (((BitVec.ofInt k.bits x &&& BitVec.ofInt k.bits y).toNat : Nat) : Int)
def orI (k : IntKind) (x y : Int) : Int := k.wrap (((BitVec.ofInt k.bits x ||| BitVec.ofInt k.bits y).toNat : Nat) : Int)
def xorI (k : IntKind) (x y : Int) : Int := k.wrap (((BitVec.ofInt k.bits x ^^^ BitVec.ofInt k.bits y).toNat : Nat) : Int)
def andNotI (k : IntKind) (x y : Int) : Int := k.wrap (((BitVec.ofInt k.bits x &&& ~~~ BitVec.ofInt k.bits y).toNat : Nat) : Int)
def shlI (k : IntKind) (x : Int) (s : Nat) : Int := k.wrap (x * 2 ^ (min s k.bits))
def shrI (k : IntKind) (x : Int) (s : Nat) : Int := x.fdiv (2 ^ (min s k.bits))
def shlB (a : UInt8) (s : Nat) : UInt8 := UInt8.ofNat (a.toNat * 2 ^ (min s 8))
def shrB (a : UInt8) (s : Nat) : UInt8 := UInt8.ofNat (a.toNat / 2 ^ (min s 8))
def ub (c : UInt8) : Int := ((c.toNat : Nat) : Int)
def len {α : Type} (l : List α) : Int := ((l.length : Nat) : Int)
def room (n : Nat) : Bool := Nat.ble n roomy
theorem wrap_id {x : Int} (h1 : -9223372036854775808 ≤ x) (h2 : x ≤ 9223372036854775807) : IntKind.wrap .i64 x = x := by
 rw [IntKind.wrap_i64]; omega
theorem ub_lt (c : UInt8) : 0 ≤ ub c ∧ ub c < 256 := by
 have := c.toNat_lt; unfold ub; omega
theorem ub_wrap (c : UInt8) : IntKind.wrap .i64 (ub c) = ub c := by
 have := ub_lt c; exact wrap_id (by omega) (by omega)
theorem ub_wrap32 (c : UInt8) : IntKind.wrap .i32 (ub c) = ub c := by
 have := ub_lt c; rw [IntKind.wrap_i32]; omega
theorem ub_inj {a b : UInt8} : ub a = ub b ↔ a = b := by
 unfold ub; rw [Int.ofNat_inj]; exact UInt8.toNat_inj
theorem wraps_i64 (n : Int) (h₀ : 0 ≤ n) (h₁ : n < 2 ^ 63) : IntKind.i64.wrap n = n := by rw [IntKind.wrap_i64]; omega
theorem wraps_u64 (n : Int) (h₀ : 0 ≤ n) (h₁ : n < 2 ^ 64) : IntKind.u64.wrap n = n := by rw [IntKind.wrap_u64]; omega
theorem wraps_u32 (n : Int) (h₀ : 0 ≤ n) (h₁ : n < 2 ^ 32) : IntKind.u32.wrap n = n := by rw [IntKind.wrap_u32]; omega
theorem andI_i64 (i : Nat) (hi : i ≤ 63) (x : Int) (h₀ : 0 ≤ x) (h₁ : x < 2 ^ 63) : andI .i64 x (2 ^ i - 1) = x % 2 ^ i := bits_mask .i64 63 (by decide) wraps_i64 i hi x h₀ h₁
theorem andI_i32 (i : Nat) (hi : i ≤ 31) (x : Int) (h₀ : 0 ≤ x) (h₁ : x < 2 ^ 31) : andI .i32 x (2 ^ i - 1) = x % 2 ^ i := bits_mask .i32 31 (by decide) wraps_i32 i hi x h₀ h₁
theorem orI_i64 (i : Nat) (x y : Int) (h1 : 0 ≤ x) (h2 : x % 2 ^ i = 0) (h3 : x < 2 ^ 63) (h4 : 0 ≤ y) (h5 : y < 2 ^ i) (h6 : y < 2 ^ 63) : orI .i64 x y = x + y := bits_join .i64 63 (by decide) wraps_i64 i x y h1 h2 h3 h4 h5 h6
theorem orI_i32 (i : Nat) (x y : Int) (h1 : 0 ≤ x) (h2 : x % 2 ^ i = 0) (h3 : x < 2 ^ 31) (h4 : 0 ≤ y) (h5 : y < 2 ^ i) (h6 : y < 2 ^ 31) : orI .i32 x y = x + y := bits_join .i32 31 (by decide) wraps_i32 i x y h1 h2 h3 h4 h5 h6
theorem shlI_i64 (x : Int) (s : Nat) (hs : s ≤ 64) (h1 : -9223372036854775808 ≤ x * 2 ^ s) (h2 : x * 2 ^ s ≤ 9223372036854775807) : shlI .i64 x s = x * 2 ^ s := by
 have : min s (IntKind.bits .i64) = s := Nat.min_eq_left hs
 rw [shlI, this]; exact wrap_id h1 h2
theorem shlI_i32 (x : Int) (s : Nat) (hs : s ≤ 32) (h1 : -2147483648 ≤ x * 2 ^ s) (h2 : x * 2 ^ s ≤ 2147483647) : shlI .i32 x s = x * 2 ^ s := by
 have : min s (IntKind.bits .i32) = s := Nat.min_eq_left hs
 rw [shlI, this, IntKind.wrap_i32]; omega
theorem shrI_i64 (x : Int) (s : Nat) (hs : s ≤ 64) : shrI .i64 x s = x / 2 ^ s := by
 have : min s (IntKind.bits .i64) = s := Nat.min_eq_left hs
 rw [shrI, this, Int.fdiv_eq_ediv_of_nonneg]; exact Int.le_of_lt (Int.pow_pos (by decide))
theorem shrI_i32 (x : Int) (s : Nat) (hs : s ≤ 32) : shrI .i32 x s = x / 2 ^ s := by
 have : min s (IntKind.bits .i32) = s := Nat.min_eq_left hs
 rw [shrI, this, Int.fdiv_eq_ediv_of_nonneg]; exact Int.le_of_lt (Int.pow_pos (by decide))
theorem room_ok {n : Nat} (h : n ≤ roomy) : room n = true := by rw [room, Nat.ble_eq]; exact h
theorem ilt_t {a b : Int} (h : a < b) : ilt a b = true := by rw [ilt_eq]; exact decide_eq_true h
theorem ilt_f {a b : Int} (h : b ≤ a) : ilt a b = false := by rw [ilt_eq]; exact decide_eq_false (by omega)
theorem ile_t {a b : Int} (h : a ≤ b) : ile a b = true := by rw [ile_eq]; exact decide_eq_true h
theorem ile_f {a b : Int} (h : b < a) : ile a b = false := by rw [ile_eq]; exact decide_eq_false (by omega)
end Go.Gv
/- More laws of whole numbers' bits. -/
namespace Go.Gv
open Go Go.Iv
theorem shl8 {x : Int} (h1 : 0 ≤ x) (h2 : x < 36028797018963968) : shlI .i64 x 8 = x * 256 := shlI_i64 x 8 (by decide) (by omega) (by omega)
theorem shl16 {x : Int} (h1 : 0 ≤ x) (h2 : x < 140737488355328) : shlI .i64 x 16 = x * 65536 := shlI_i64 x 16 (by decide) (by omega) (by omega)
theorem shl24 {x : Int} (h1 : 0 ≤ x) (h2 : x < 549755813888) : shlI .i64 x 24 = x * 16777216 := shlI_i64 x 24 (by decide) (by omega) (by omega)
theorem shl10 {x : Int} (h1 : -2097152 ≤ x) (h2 : x < 9007199254740992) : shlI .i64 x 10 = x * 1024 := shlI_i64 x 10 (by decide) (by omega) (by omega)
theorem shl0 {x : Int} (h1 : 0 ≤ x) (h2 : x ≤ 9223372036854775807) : shlI .i64 x 0 = x := (shlI_i64 x 0 (by decide) (by omega) (by omega)).trans (by omega)
theorem orHi8 {a y : Int} (h1 : 0 ≤ a) (h2 : a < 36028797018963968) (h3 : 0 ≤ y) (h4 : y < 256) : orI .i64 (a * 256) y = a * 256 + y := orI_i64 8 _ _ (by omega) (by omega) (by omega) h3 (by omega) (by omega)
theorem orLo {k : Nat} {a x : Int} (hk : k ≤ 60) (h1 : 0 ≤ x) (h2 : x < 2 ^ k) (h3 : 0 ≤ a * 2 ^ k) (h4 : a * 2 ^ k < 2 ^ 63) : orI .i64 x (a * 2 ^ k) = x + a * 2 ^ k := by
 have h5 : (2 : Int) ^ k ≤ 2 ^ 60 := by
  have := Nat.pow_le_pow_right (show 0 < 2 by decide) hk
  exact_mod_cast this
 have e : orI .i64 x (a * 2 ^ k) = orI .i64 (a * 2 ^ k) x := by
  unfold orI; rw [BitVec.or_comm]
 rw [e, orI_i64 k _ _ h3 (Int.mul_emod_left _ _) h4 h1 h2 (by omega), Int.add_comm]
theorem orLo0 {a : Int} (h1 : 0 ≤ a) (h2 : a ≤ 9223372036854775807) : orI .i64 0 a = a := (orI_i64 63 0 a (by decide) (by decide) (by decide) h1 (by omega) (by omega)).trans (by omega)
theorem orLo8 {a x : Int} (h1 : 0 ≤ x) (h2 : x < 256) (h3 : 0 ≤ a) (h4 : a < 36028797018963968) : orI .i64 x (a * 256) = x + a * 256 := orLo (k := 8) (by decide) h1 (by omega) (by omega) (by omega)
theorem orLo16 {a x : Int} (h1 : 0 ≤ x) (h2 : x < 65536) (h3 : 0 ≤ a) (h4 : a < 140737488355328) : orI .i64 x (a * 65536) = x + a * 65536 := orLo (k := 16) (by decide) h1 (by omega) (by omega) (by omega)
theorem orLo24 {a x : Int} (h1 : 0 ≤ x) (h2 : x < 16777216) (h3 : 0 ≤ a) (h4 : a < 549755813888) : orI .i64 x (a * 16777216) = x + a * 16777216 := orLo (k := 24) (by decide) h1 (by omega) (by omega) (by omega)
end Go.Gv
