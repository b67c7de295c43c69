/- Plain functions for the program's. -/
import Derived.Test.YtoiiimbhfdnomaaDoorGs
import Derived.Test.YtoiiimbhfdnomaaDoorProg
import Derived.KernelRfl
namespace Go.Proofs.YtoiiimbhfdnomaaDoor
open Go Go.Iv Go.Gv
set_option maxRecDepth 100000
def alive (_ : Nat) : Option (argsTy [(false, .bool)]) :=
  some (Bool.true, ())
noncomputable def alive_it : FnIt := ⟨5, [], [(false, .bool)], 6, fun n _ => alive n⟩
theorem alive_ok (n : Nat) : FnOK Go.Proofs.Tryd.prog hint alive_it n :=
  FnOK.of (hk := fun β => (Known.mk [] []).hk β) (sh := shT) (fun m _ => KnownOK.hook KnownOK.nil m) (fun x => by kernel_rfl)

def L3_8_Xexit0 : Tm := ⟨[], [(64, .cells 41 [.int .i64] true), (65, .cells 41 [.int .i64] true), (66, .cells 43 [.int .i64] true)], 67, 67, 1003⟩
def L3_8_Xret : Tm := ⟨[(4, .one (.bool))], [(64, .cells 41 [.int .i64] true), (65, .cells 41 [.int .i64] true), (66, .cells 43 [.int .i64] true)], 67, 67, 1003⟩
def L3_8_T : Tm := ⟨[(1, .one (.lst (.int .i64))), (6, .one (.fix (Go.Gv.TV.ptr 64 0))), (7, .one (.fix (Go.Gv.TV.ptr 65 0))), (8, .one (.fix (Go.Gv.TV.ptr 66 0))), (9, .one (.int .i64))], [(64, .cells 41 [.int .i64] true), (65, .cells 41 [.int .i64] true), (66, .cells 43 [.int .i64] true)], 67, 67, 1003⟩
def L3_8 : Nat → (List Int) → Int → Int → Int → Int → Option (exTy [(.exit 0, L3_8_Xexit0), (.ret, L3_8_Xret)])
  | 0, _, _, _, _, _ => none
  | n + 1, t1, t9, c64_0, c65_0, c66_0 =>
    bif (Go.Iv.ilt t9 (((List.length t1) : Nat) : Int)) then
      bif (Go.Iv.ilt t9 (1 : Int)) then
        bif (Go.Iv.ile (0 : Int) t9) then
        Option.bind (t1[(Int.toNat t9)]?) fun x13 =>
        bif (Go.Iv.ilt x13 (1 : Int)) then
          bif (Go.Iv.ile (0 : Int) t9) then
          Option.bind (t1[(Int.toNat t9)]?) fun x14 =>
          bif (Go.Iv.ilt x14 (1 : Int)) then
            L3_8 n t1 (Go.IntKind.wrap Go.IntKind.i64 (t9 + (1 : Int))) (Go.IntKind.wrap Go.IntKind.i64 (((BitVec.toNat ((BitVec.ofInt (Go.IntKind.bits Go.IntKind.i64) (Go.IntKind.wrap Go.IntKind.i64 ((Go.IntKind.wrap Go.IntKind.i64 (c64_0 * (1664525 : Int))) + (1013904223 : Int)))) &&& (BitVec.ofInt (Go.IntKind.bits Go.IntKind.i64) (4294967295 : Int)))) : Nat) : Int)) (Go.IntKind.wrap Go.IntKind.i64 (((BitVec.toNat ((BitVec.ofInt (Go.IntKind.bits Go.IntKind.i64) (Go.IntKind.wrap Go.IntKind.i64 ((Go.IntKind.wrap Go.IntKind.i64 (c65_0 * (1664525 : Int))) + (1013904223 : Int)))) &&& (BitVec.ofInt (Go.IntKind.bits Go.IntKind.i64) (4294967295 : Int)))) : Nat) : Int)) (Go.IntKind.wrap Go.IntKind.i64 (((BitVec.toNat ((BitVec.ofInt (Go.IntKind.bits Go.IntKind.i64) (Go.IntKind.wrap Go.IntKind.i64 ((Go.IntKind.wrap Go.IntKind.i64 (c66_0 * (1664525 : Int))) + (1013904223 : Int)))) &&& (BitVec.ofInt (Go.IntKind.bits Go.IntKind.i64) (4294967295 : Int)))) : Nat) : Int))
          else
          bif (x14 != (0 : Int)) then
          bif ((0 : Int) != (Int.tmod (Int.fdiv (Go.IntKind.wrap Go.IntKind.i64 (((BitVec.toNat ((BitVec.ofInt (Go.IntKind.bits Go.IntKind.i64) (Go.IntKind.wrap Go.IntKind.i64 ((Go.IntKind.wrap Go.IntKind.i64 (c66_0 * (1664525 : Int))) + (1013904223 : Int)))) &&& (BitVec.ofInt (Go.IntKind.bits Go.IntKind.i64) (4294967295 : Int)))) : Nat) : Int)) ((2 : Int) ^ (Min.min (Int.toNat (8 : Int)) (Go.IntKind.bits Go.IntKind.i64)))) x14)) then
            some (.inr ((Bool.false, ()), (((Go.IntKind.wrap Go.IntKind.i64 (((BitVec.toNat ((BitVec.ofInt (Go.IntKind.bits Go.IntKind.i64) (Go.IntKind.wrap Go.IntKind.i64 ((Go.IntKind.wrap Go.IntKind.i64 (c64_0 * (1664525 : Int))) + (1013904223 : Int)))) &&& (BitVec.ofInt (Go.IntKind.bits Go.IntKind.i64) (4294967295 : Int)))) : Nat) : Int)), ()), (((Go.IntKind.wrap Go.IntKind.i64 (((BitVec.toNat ((BitVec.ofInt (Go.IntKind.bits Go.IntKind.i64) (Go.IntKind.wrap Go.IntKind.i64 ((Go.IntKind.wrap Go.IntKind.i64 (c65_0 * (1664525 : Int))) + (1013904223 : Int)))) &&& (BitVec.ofInt (Go.IntKind.bits Go.IntKind.i64) (4294967295 : Int)))) : Nat) : Int)), ()), (((Go.IntKind.wrap Go.IntKind.i64 (((BitVec.toNat ((BitVec.ofInt (Go.IntKind.bits Go.IntKind.i64) (Go.IntKind.wrap Go.IntKind.i64 ((Go.IntKind.wrap Go.IntKind.i64 (c66_0 * (1664525 : Int))) + (1013904223 : Int)))) &&& (BitVec.ofInt (Go.IntKind.bits Go.IntKind.i64) (4294967295 : Int)))) : Nat) : Int)), ()), ())))))
          else
          L3_8 n t1 (Go.IntKind.wrap Go.IntKind.i64 (t9 + (1 : Int))) (Go.IntKind.wrap Go.IntKind.i64 (((BitVec.toNat ((BitVec.ofInt (Go.IntKind.bits Go.IntKind.i64) (Go.IntKind.wrap Go.IntKind.i64 ((Go.IntKind.wrap Go.IntKind.i64 (c64_0 * (1664525 : Int))) + (1013904223 : Int)))) &&& (BitVec.ofInt (Go.IntKind.bits Go.IntKind.i64) (4294967295 : Int)))) : Nat) : Int)) (Go.IntKind.wrap Go.IntKind.i64 (((BitVec.toNat ((BitVec.ofInt (Go.IntKind.bits Go.IntKind.i64) (Go.IntKind.wrap Go.IntKind.i64 ((Go.IntKind.wrap Go.IntKind.i64 (c65_0 * (1664525 : Int))) + (1013904223 : Int)))) &&& (BitVec.ofInt (Go.IntKind.bits Go.IntKind.i64) (4294967295 : Int)))) : Nat) : Int)) (Go.IntKind.wrap Go.IntKind.i64 (((BitVec.toNat ((BitVec.ofInt (Go.IntKind.bits Go.IntKind.i64) (Go.IntKind.wrap Go.IntKind.i64 ((Go.IntKind.wrap Go.IntKind.i64 (c66_0 * (1664525 : Int))) + (1013904223 : Int)))) &&& (BitVec.ofInt (Go.IntKind.bits Go.IntKind.i64) (4294967295 : Int)))) : Nat) : Int))
          else none
          else none
        else
        bif (x13 != (0 : Int)) then
        bif (Go.Iv.ile (0 : Int) t9) then
        Option.bind (t1[(Int.toNat t9)]?) fun x15 =>
        bif (Go.Iv.ilt x15 (1 : Int)) then
          bif ((Int.tmod (Int.fdiv (Go.IntKind.wrap Go.IntKind.i64 (((BitVec.toNat ((BitVec.ofInt (Go.IntKind.bits Go.IntKind.i64) (Go.IntKind.wrap Go.IntKind.i64 ((Go.IntKind.wrap Go.IntKind.i64 (c64_0 * (1664525 : Int))) + (1013904223 : Int)))) &&& (BitVec.ofInt (Go.IntKind.bits Go.IntKind.i64) (4294967295 : Int)))) : Nat) : Int)) ((2 : Int) ^ (Min.min (Int.toNat (8 : Int)) (Go.IntKind.bits Go.IntKind.i64)))) x13) != (0 : Int)) then
            some (.inr ((Bool.false, ()), (((Go.IntKind.wrap Go.IntKind.i64 (((BitVec.toNat ((BitVec.ofInt (Go.IntKind.bits Go.IntKind.i64) (Go.IntKind.wrap Go.IntKind.i64 ((Go.IntKind.wrap Go.IntKind.i64 (c64_0 * (1664525 : Int))) + (1013904223 : Int)))) &&& (BitVec.ofInt (Go.IntKind.bits Go.IntKind.i64) (4294967295 : Int)))) : Nat) : Int)), ()), (((Go.IntKind.wrap Go.IntKind.i64 (((BitVec.toNat ((BitVec.ofInt (Go.IntKind.bits Go.IntKind.i64) (Go.IntKind.wrap Go.IntKind.i64 ((Go.IntKind.wrap Go.IntKind.i64 (c65_0 * (1664525 : Int))) + (1013904223 : Int)))) &&& (BitVec.ofInt (Go.IntKind.bits Go.IntKind.i64) (4294967295 : Int)))) : Nat) : Int)), ()), (((Go.IntKind.wrap Go.IntKind.i64 (((BitVec.toNat ((BitVec.ofInt (Go.IntKind.bits Go.IntKind.i64) (Go.IntKind.wrap Go.IntKind.i64 ((Go.IntKind.wrap Go.IntKind.i64 (c66_0 * (1664525 : Int))) + (1013904223 : Int)))) &&& (BitVec.ofInt (Go.IntKind.bits Go.IntKind.i64) (4294967295 : Int)))) : Nat) : Int)), ()), ())))))
          else
          L3_8 n t1 (Go.IntKind.wrap Go.IntKind.i64 (t9 + (1 : Int))) (Go.IntKind.wrap Go.IntKind.i64 (((BitVec.toNat ((BitVec.ofInt (Go.IntKind.bits Go.IntKind.i64) (Go.IntKind.wrap Go.IntKind.i64 ((Go.IntKind.wrap Go.IntKind.i64 (c64_0 * (1664525 : Int))) + (1013904223 : Int)))) &&& (BitVec.ofInt (Go.IntKind.bits Go.IntKind.i64) (4294967295 : Int)))) : Nat) : Int)) (Go.IntKind.wrap Go.IntKind.i64 (((BitVec.toNat ((BitVec.ofInt (Go.IntKind.bits Go.IntKind.i64) (Go.IntKind.wrap Go.IntKind.i64 ((Go.IntKind.wrap Go.IntKind.i64 (c65_0 * (1664525 : Int))) + (1013904223 : Int)))) &&& (BitVec.ofInt (Go.IntKind.bits Go.IntKind.i64) (4294967295 : Int)))) : Nat) : Int)) (Go.IntKind.wrap Go.IntKind.i64 (((BitVec.toNat ((BitVec.ofInt (Go.IntKind.bits Go.IntKind.i64) (Go.IntKind.wrap Go.IntKind.i64 ((Go.IntKind.wrap Go.IntKind.i64 (c66_0 * (1664525 : Int))) + (1013904223 : Int)))) &&& (BitVec.ofInt (Go.IntKind.bits Go.IntKind.i64) (4294967295 : Int)))) : Nat) : Int))
        else
        bif (x15 != (0 : Int)) then
        bif ((Int.tmod (Int.fdiv (Go.IntKind.wrap Go.IntKind.i64 (((BitVec.toNat ((BitVec.ofInt (Go.IntKind.bits Go.IntKind.i64) (Go.IntKind.wrap Go.IntKind.i64 ((Go.IntKind.wrap Go.IntKind.i64 (c64_0 * (1664525 : Int))) + (1013904223 : Int)))) &&& (BitVec.ofInt (Go.IntKind.bits Go.IntKind.i64) (4294967295 : Int)))) : Nat) : Int)) ((2 : Int) ^ (Min.min (Int.toNat (8 : Int)) (Go.IntKind.bits Go.IntKind.i64)))) x13) != (Int.tmod (Int.fdiv (Go.IntKind.wrap Go.IntKind.i64 (((BitVec.toNat ((BitVec.ofInt (Go.IntKind.bits Go.IntKind.i64) (Go.IntKind.wrap Go.IntKind.i64 ((Go.IntKind.wrap Go.IntKind.i64 (c66_0 * (1664525 : Int))) + (1013904223 : Int)))) &&& (BitVec.ofInt (Go.IntKind.bits Go.IntKind.i64) (4294967295 : Int)))) : Nat) : Int)) ((2 : Int) ^ (Min.min (Int.toNat (8 : Int)) (Go.IntKind.bits Go.IntKind.i64)))) x15)) then
          some (.inr ((Bool.false, ()), (((Go.IntKind.wrap Go.IntKind.i64 (((BitVec.toNat ((BitVec.ofInt (Go.IntKind.bits Go.IntKind.i64) (Go.IntKind.wrap Go.IntKind.i64 ((Go.IntKind.wrap Go.IntKind.i64 (c64_0 * (1664525 : Int))) + (1013904223 : Int)))) &&& (BitVec.ofInt (Go.IntKind.bits Go.IntKind.i64) (4294967295 : Int)))) : Nat) : Int)), ()), (((Go.IntKind.wrap Go.IntKind.i64 (((BitVec.toNat ((BitVec.ofInt (Go.IntKind.bits Go.IntKind.i64) (Go.IntKind.wrap Go.IntKind.i64 ((Go.IntKind.wrap Go.IntKind.i64 (c65_0 * (1664525 : Int))) + (1013904223 : Int)))) &&& (BitVec.ofInt (Go.IntKind.bits Go.IntKind.i64) (4294967295 : Int)))) : Nat) : Int)), ()), (((Go.IntKind.wrap Go.IntKind.i64 (((BitVec.toNat ((BitVec.ofInt (Go.IntKind.bits Go.IntKind.i64) (Go.IntKind.wrap Go.IntKind.i64 ((Go.IntKind.wrap Go.IntKind.i64 (c66_0 * (1664525 : Int))) + (1013904223 : Int)))) &&& (BitVec.ofInt (Go.IntKind.bits Go.IntKind.i64) (4294967295 : Int)))) : Nat) : Int)), ()), ())))))
        else
        L3_8 n t1 (Go.IntKind.wrap Go.IntKind.i64 (t9 + (1 : Int))) (Go.IntKind.wrap Go.IntKind.i64 (((BitVec.toNat ((BitVec.ofInt (Go.IntKind.bits Go.IntKind.i64) (Go.IntKind.wrap Go.IntKind.i64 ((Go.IntKind.wrap Go.IntKind.i64 (c64_0 * (1664525 : Int))) + (1013904223 : Int)))) &&& (BitVec.ofInt (Go.IntKind.bits Go.IntKind.i64) (4294967295 : Int)))) : Nat) : Int)) (Go.IntKind.wrap Go.IntKind.i64 (((BitVec.toNat ((BitVec.ofInt (Go.IntKind.bits Go.IntKind.i64) (Go.IntKind.wrap Go.IntKind.i64 ((Go.IntKind.wrap Go.IntKind.i64 (c65_0 * (1664525 : Int))) + (1013904223 : Int)))) &&& (BitVec.ofInt (Go.IntKind.bits Go.IntKind.i64) (4294967295 : Int)))) : Nat) : Int)) (Go.IntKind.wrap Go.IntKind.i64 (((BitVec.toNat ((BitVec.ofInt (Go.IntKind.bits Go.IntKind.i64) (Go.IntKind.wrap Go.IntKind.i64 ((Go.IntKind.wrap Go.IntKind.i64 (c66_0 * (1664525 : Int))) + (1013904223 : Int)))) &&& (BitVec.ofInt (Go.IntKind.bits Go.IntKind.i64) (4294967295 : Int)))) : Nat) : Int))
        else none
        else none
        else none
        else none
      else
      bif (t9 != (0 : Int)) then
      bif (Go.Iv.ile (0 : Int) t9) then
      Option.bind (t1[(Int.toNat t9)]?) fun x16 =>
      bif (Go.Iv.ilt x16 (1 : Int)) then
        bif (Go.Iv.ile (0 : Int) t9) then
        Option.bind (t1[(Int.toNat t9)]?) fun x17 =>
        bif (Go.Iv.ilt x17 (1 : Int)) then
          L3_8 n t1 (Go.IntKind.wrap Go.IntKind.i64 (t9 + (1 : Int))) (Go.IntKind.wrap Go.IntKind.i64 (((BitVec.toNat ((BitVec.ofInt (Go.IntKind.bits Go.IntKind.i64) (Go.IntKind.wrap Go.IntKind.i64 ((Go.IntKind.wrap Go.IntKind.i64 (c64_0 * (1664525 : Int))) + (1013904223 : Int)))) &&& (BitVec.ofInt (Go.IntKind.bits Go.IntKind.i64) (4294967295 : Int)))) : Nat) : Int)) (Go.IntKind.wrap Go.IntKind.i64 (((BitVec.toNat ((BitVec.ofInt (Go.IntKind.bits Go.IntKind.i64) (Go.IntKind.wrap Go.IntKind.i64 ((Go.IntKind.wrap Go.IntKind.i64 (c65_0 * (1664525 : Int))) + (1013904223 : Int)))) &&& (BitVec.ofInt (Go.IntKind.bits Go.IntKind.i64) (4294967295 : Int)))) : Nat) : Int)) (Go.IntKind.wrap Go.IntKind.i64 (((BitVec.toNat ((BitVec.ofInt (Go.IntKind.bits Go.IntKind.i64) (Go.IntKind.wrap Go.IntKind.i64 ((Go.IntKind.wrap Go.IntKind.i64 (c66_0 * (1664525 : Int))) + (1013904223 : Int)))) &&& (BitVec.ofInt (Go.IntKind.bits Go.IntKind.i64) (4294967295 : Int)))) : Nat) : Int))
        else
        bif (x17 != (0 : Int)) then
        bif ((0 : Int) != (Int.tmod (Int.fdiv (Go.IntKind.wrap Go.IntKind.i64 (((BitVec.toNat ((BitVec.ofInt (Go.IntKind.bits Go.IntKind.i64) (Go.IntKind.wrap Go.IntKind.i64 ((Go.IntKind.wrap Go.IntKind.i64 (c66_0 * (1664525 : Int))) + (1013904223 : Int)))) &&& (BitVec.ofInt (Go.IntKind.bits Go.IntKind.i64) (4294967295 : Int)))) : Nat) : Int)) ((2 : Int) ^ (Min.min (Int.toNat (8 : Int)) (Go.IntKind.bits Go.IntKind.i64)))) x17)) then
          some (.inr ((Bool.false, ()), (((Go.IntKind.wrap Go.IntKind.i64 (((BitVec.toNat ((BitVec.ofInt (Go.IntKind.bits Go.IntKind.i64) (Go.IntKind.wrap Go.IntKind.i64 ((Go.IntKind.wrap Go.IntKind.i64 (c64_0 * (1664525 : Int))) + (1013904223 : Int)))) &&& (BitVec.ofInt (Go.IntKind.bits Go.IntKind.i64) (4294967295 : Int)))) : Nat) : Int)), ()), (((Go.IntKind.wrap Go.IntKind.i64 (((BitVec.toNat ((BitVec.ofInt (Go.IntKind.bits Go.IntKind.i64) (Go.IntKind.wrap Go.IntKind.i64 ((Go.IntKind.wrap Go.IntKind.i64 (c65_0 * (1664525 : Int))) + (1013904223 : Int)))) &&& (BitVec.ofInt (Go.IntKind.bits Go.IntKind.i64) (4294967295 : Int)))) : Nat) : Int)), ()), (((Go.IntKind.wrap Go.IntKind.i64 (((BitVec.toNat ((BitVec.ofInt (Go.IntKind.bits Go.IntKind.i64) (Go.IntKind.wrap Go.IntKind.i64 ((Go.IntKind.wrap Go.IntKind.i64 (c66_0 * (1664525 : Int))) + (1013904223 : Int)))) &&& (BitVec.ofInt (Go.IntKind.bits Go.IntKind.i64) (4294967295 : Int)))) : Nat) : Int)), ()), ())))))
        else
        L3_8 n t1 (Go.IntKind.wrap Go.IntKind.i64 (t9 + (1 : Int))) (Go.IntKind.wrap Go.IntKind.i64 (((BitVec.toNat ((BitVec.ofInt (Go.IntKind.bits Go.IntKind.i64) (Go.IntKind.wrap Go.IntKind.i64 ((Go.IntKind.wrap Go.IntKind.i64 (c64_0 * (1664525 : Int))) + (1013904223 : Int)))) &&& (BitVec.ofInt (Go.IntKind.bits Go.IntKind.i64) (4294967295 : Int)))) : Nat) : Int)) (Go.IntKind.wrap Go.IntKind.i64 (((BitVec.toNat ((BitVec.ofInt (Go.IntKind.bits Go.IntKind.i64) (Go.IntKind.wrap Go.IntKind.i64 ((Go.IntKind.wrap Go.IntKind.i64 (c65_0 * (1664525 : Int))) + (1013904223 : Int)))) &&& (BitVec.ofInt (Go.IntKind.bits Go.IntKind.i64) (4294967295 : Int)))) : Nat) : Int)) (Go.IntKind.wrap Go.IntKind.i64 (((BitVec.toNat ((BitVec.ofInt (Go.IntKind.bits Go.IntKind.i64) (Go.IntKind.wrap Go.IntKind.i64 ((Go.IntKind.wrap Go.IntKind.i64 (c66_0 * (1664525 : Int))) + (1013904223 : Int)))) &&& (BitVec.ofInt (Go.IntKind.bits Go.IntKind.i64) (4294967295 : Int)))) : Nat) : Int))
        else none
        else none
      else
      bif (x16 != (0 : Int)) then
      bif (Go.Iv.ile (0 : Int) t9) then
      Option.bind (t1[(Int.toNat t9)]?) fun x18 =>
      bif (Go.Iv.ilt x18 (1 : Int)) then
        bif ((Int.tmod (Int.fdiv (Go.IntKind.wrap Go.IntKind.i64 (((BitVec.toNat ((BitVec.ofInt (Go.IntKind.bits Go.IntKind.i64) (Go.IntKind.wrap Go.IntKind.i64 ((Go.IntKind.wrap Go.IntKind.i64 (c64_0 * (1664525 : Int))) + (1013904223 : Int)))) &&& (BitVec.ofInt (Go.IntKind.bits Go.IntKind.i64) (4294967295 : Int)))) : Nat) : Int)) ((2 : Int) ^ (Min.min (Int.toNat (8 : Int)) (Go.IntKind.bits Go.IntKind.i64)))) x16) != (0 : Int)) then
          some (.inr ((Bool.false, ()), (((Go.IntKind.wrap Go.IntKind.i64 (((BitVec.toNat ((BitVec.ofInt (Go.IntKind.bits Go.IntKind.i64) (Go.IntKind.wrap Go.IntKind.i64 ((Go.IntKind.wrap Go.IntKind.i64 (c64_0 * (1664525 : Int))) + (1013904223 : Int)))) &&& (BitVec.ofInt (Go.IntKind.bits Go.IntKind.i64) (4294967295 : Int)))) : Nat) : Int)), ()), (((Go.IntKind.wrap Go.IntKind.i64 (((BitVec.toNat ((BitVec.ofInt (Go.IntKind.bits Go.IntKind.i64) (Go.IntKind.wrap Go.IntKind.i64 ((Go.IntKind.wrap Go.IntKind.i64 (c65_0 * (1664525 : Int))) + (1013904223 : Int)))) &&& (BitVec.ofInt (Go.IntKind.bits Go.IntKind.i64) (4294967295 : Int)))) : Nat) : Int)), ()), (((Go.IntKind.wrap Go.IntKind.i64 (((BitVec.toNat ((BitVec.ofInt (Go.IntKind.bits Go.IntKind.i64) (Go.IntKind.wrap Go.IntKind.i64 ((Go.IntKind.wrap Go.IntKind.i64 (c66_0 * (1664525 : Int))) + (1013904223 : Int)))) &&& (BitVec.ofInt (Go.IntKind.bits Go.IntKind.i64) (4294967295 : Int)))) : Nat) : Int)), ()), ())))))
        else
        L3_8 n t1 (Go.IntKind.wrap Go.IntKind.i64 (t9 + (1 : Int))) (Go.IntKind.wrap Go.IntKind.i64 (((BitVec.toNat ((BitVec.ofInt (Go.IntKind.bits Go.IntKind.i64) (Go.IntKind.wrap Go.IntKind.i64 ((Go.IntKind.wrap Go.IntKind.i64 (c64_0 * (1664525 : Int))) + (1013904223 : Int)))) &&& (BitVec.ofInt (Go.IntKind.bits Go.IntKind.i64) (4294967295 : Int)))) : Nat) : Int)) (Go.IntKind.wrap Go.IntKind.i64 (((BitVec.toNat ((BitVec.ofInt (Go.IntKind.bits Go.IntKind.i64) (Go.IntKind.wrap Go.IntKind.i64 ((Go.IntKind.wrap Go.IntKind.i64 (c65_0 * (1664525 : Int))) + (1013904223 : Int)))) &&& (BitVec.ofInt (Go.IntKind.bits Go.IntKind.i64) (4294967295 : Int)))) : Nat) : Int)) (Go.IntKind.wrap Go.IntKind.i64 (((BitVec.toNat ((BitVec.ofInt (Go.IntKind.bits Go.IntKind.i64) (Go.IntKind.wrap Go.IntKind.i64 ((Go.IntKind.wrap Go.IntKind.i64 (c66_0 * (1664525 : Int))) + (1013904223 : Int)))) &&& (BitVec.ofInt (Go.IntKind.bits Go.IntKind.i64) (4294967295 : Int)))) : Nat) : Int))
      else
      bif (x18 != (0 : Int)) then
      bif ((Int.tmod (Int.fdiv (Go.IntKind.wrap Go.IntKind.i64 (((BitVec.toNat ((BitVec.ofInt (Go.IntKind.bits Go.IntKind.i64) (Go.IntKind.wrap Go.IntKind.i64 ((Go.IntKind.wrap Go.IntKind.i64 (c64_0 * (1664525 : Int))) + (1013904223 : Int)))) &&& (BitVec.ofInt (Go.IntKind.bits Go.IntKind.i64) (4294967295 : Int)))) : Nat) : Int)) ((2 : Int) ^ (Min.min (Int.toNat (8 : Int)) (Go.IntKind.bits Go.IntKind.i64)))) x16) != (Int.tmod (Int.fdiv (Go.IntKind.wrap Go.IntKind.i64 (((BitVec.toNat ((BitVec.ofInt (Go.IntKind.bits Go.IntKind.i64) (Go.IntKind.wrap Go.IntKind.i64 ((Go.IntKind.wrap Go.IntKind.i64 (c66_0 * (1664525 : Int))) + (1013904223 : Int)))) &&& (BitVec.ofInt (Go.IntKind.bits Go.IntKind.i64) (4294967295 : Int)))) : Nat) : Int)) ((2 : Int) ^ (Min.min (Int.toNat (8 : Int)) (Go.IntKind.bits Go.IntKind.i64)))) x18)) then
        some (.inr ((Bool.false, ()), (((Go.IntKind.wrap Go.IntKind.i64 (((BitVec.toNat ((BitVec.ofInt (Go.IntKind.bits Go.IntKind.i64) (Go.IntKind.wrap Go.IntKind.i64 ((Go.IntKind.wrap Go.IntKind.i64 (c64_0 * (1664525 : Int))) + (1013904223 : Int)))) &&& (BitVec.ofInt (Go.IntKind.bits Go.IntKind.i64) (4294967295 : Int)))) : Nat) : Int)), ()), (((Go.IntKind.wrap Go.IntKind.i64 (((BitVec.toNat ((BitVec.ofInt (Go.IntKind.bits Go.IntKind.i64) (Go.IntKind.wrap Go.IntKind.i64 ((Go.IntKind.wrap Go.IntKind.i64 (c65_0 * (1664525 : Int))) + (1013904223 : Int)))) &&& (BitVec.ofInt (Go.IntKind.bits Go.IntKind.i64) (4294967295 : Int)))) : Nat) : Int)), ()), (((Go.IntKind.wrap Go.IntKind.i64 (((BitVec.toNat ((BitVec.ofInt (Go.IntKind.bits Go.IntKind.i64) (Go.IntKind.wrap Go.IntKind.i64 ((Go.IntKind.wrap Go.IntKind.i64 (c66_0 * (1664525 : Int))) + (1013904223 : Int)))) &&& (BitVec.ofInt (Go.IntKind.bits Go.IntKind.i64) (4294967295 : Int)))) : Nat) : Int)), ()), ())))))
      else
      L3_8 n t1 (Go.IntKind.wrap Go.IntKind.i64 (t9 + (1 : Int))) (Go.IntKind.wrap Go.IntKind.i64 (((BitVec.toNat ((BitVec.ofInt (Go.IntKind.bits Go.IntKind.i64) (Go.IntKind.wrap Go.IntKind.i64 ((Go.IntKind.wrap Go.IntKind.i64 (c64_0 * (1664525 : Int))) + (1013904223 : Int)))) &&& (BitVec.ofInt (Go.IntKind.bits Go.IntKind.i64) (4294967295 : Int)))) : Nat) : Int)) (Go.IntKind.wrap Go.IntKind.i64 (((BitVec.toNat ((BitVec.ofInt (Go.IntKind.bits Go.IntKind.i64) (Go.IntKind.wrap Go.IntKind.i64 ((Go.IntKind.wrap Go.IntKind.i64 (c65_0 * (1664525 : Int))) + (1013904223 : Int)))) &&& (BitVec.ofInt (Go.IntKind.bits Go.IntKind.i64) (4294967295 : Int)))) : Nat) : Int)) (Go.IntKind.wrap Go.IntKind.i64 (((BitVec.toNat ((BitVec.ofInt (Go.IntKind.bits Go.IntKind.i64) (Go.IntKind.wrap Go.IntKind.i64 ((Go.IntKind.wrap Go.IntKind.i64 (c66_0 * (1664525 : Int))) + (1013904223 : Int)))) &&& (BitVec.ofInt (Go.IntKind.bits Go.IntKind.i64) (4294967295 : Int)))) : Nat) : Int))
      else none
      else none
      else none
      else none
      else none
    else
    some (.inl ((), ((c64_0, ()), ((c65_0, ()), ((c66_0, ()), ())))))
noncomputable def L3_8_it : LoopIt := ⟨3, 8, none, L3_8_T, [(.exit 0, L3_8_Xexit0), (.ret, L3_8_Xret)], 1, fun n x => L3_8 n x.1.1 x.1.2.2.2.2.1 x.2.1.1 x.2.2.1.1 x.2.2.2.1.1⟩
theorem L3_8_Xexit0_ok : L3_8_Xexit0.ok Go.Proofs.Tryd.prog hint := by
  intro p hp
  simp only [L3_8_Xexit0, List.mem_cons, List.not_mem_nil, or_false] at hp
  rcases hp with rfl | rfl | rfl
  · trivial
  · trivial
  · trivial
theorem L3_8_Xret_ok : L3_8_Xret.ok Go.Proofs.Tryd.prog hint := by
  intro p hp
  simp only [L3_8_Xret, List.mem_cons, List.not_mem_nil, or_false] at hp
  rcases hp with rfl | rfl | rfl
  · trivial
  · trivial
  · trivial
theorem L3_8_T_ok : L3_8_T.ok Go.Proofs.Tryd.prog hint := by
  intro p hp
  simp only [L3_8_T, List.mem_cons, List.not_mem_nil, or_false] at hp
  rcases hp with rfl | rfl | rfl
  · trivial
  · trivial
  · trivial
theorem L3_8_ok : ∀ n, LoopOK Go.Proofs.Tryd.prog hint L3_8_it n :=
  LoopOK.of (hk := fun β => (Known.mk [alive_it] []).hk β) (sh := shT) (OneLoop.of (by kernel_rfl)) L3_8_T_ok ⟨⟨L3_8_Xexit0_ok, Nat.le_refl _, Nat.le_refl _⟩, ⟨L3_8_Xret_ok, Nat.le_refl _, Nat.le_refl _⟩, trivial⟩ (fun m => KnownOK.hook (KnownOK.nil.fn alive_ok) m)
    (fun _ => by kernel_rfl) (fun m x => by kernel_rfl)

def lots (n : Nat) (seed : Int) (l : List Int) : Option (argsTy [(false, .bool)]) :=
  Option.bind (alive n ) fun y0 =>
  bif (!y0.1) then
    some (y0.1, ())
  else
  bif (Go.Iv.ilt (200 : Int) (((List.length l) : Nat) : Int)) then
    some (y0.1, ())
  else
  Option.bind (L3_8 (n + 6) l (0 : Int) (Go.IntKind.wrap Go.IntKind.i64 (((BitVec.toNat ((BitVec.ofInt (Go.IntKind.bits Go.IntKind.i64) seed) &&& (BitVec.ofInt (Go.IntKind.bits Go.IntKind.i64) (4294967295 : Int)))) : Nat) : Int)) (Go.IntKind.wrap Go.IntKind.i64 (((BitVec.toNat ((BitVec.ofInt (Go.IntKind.bits Go.IntKind.i64) (Go.IntKind.wrap Go.IntKind.i64 (seed + (1 : Int)))) &&& (BitVec.ofInt (Go.IntKind.bits Go.IntKind.i64) (4294967295 : Int)))) : Nat) : Int)) (Go.IntKind.wrap Go.IntKind.i64 (((BitVec.toNat ((BitVec.ofInt (Go.IntKind.bits Go.IntKind.i64) seed) &&& (BitVec.ofInt (Go.IntKind.bits Go.IntKind.i64) (4294967295 : Int)))) : Nat) : Int))) fun y19 =>
  match y19 with
    | .inl _ =>
      some (Bool.true, ())
    | .inr y21 =>
      some (y21.1.1, ())
noncomputable def lots_it : FnIt := ⟨3, [(false, (.int .i64)), (false, (.slc (.int .i64)))], [(false, .bool)], 7, fun n x => lots n x.1 x.2.1⟩
theorem lots_ok (n : Nat) : FnOK Go.Proofs.Tryd.prog hint lots_it n :=
  FnOK.of (hk := fun β => (Known.mk [alive_it] [L3_8_it]).hk β) (sh := shT) (fun m _ => KnownOK.hook ((KnownOK.nil.fn alive_ok).loop L3_8_ok L3_8_T_ok) m) (fun x => by kernel_rfl)


end Go.Proofs.YtoiiimbhfdnomaaDoor
