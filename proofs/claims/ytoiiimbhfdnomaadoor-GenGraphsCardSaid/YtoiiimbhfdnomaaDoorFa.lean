/- Plain functions for the program's. -/
import Derived.Test.YtoiiimbhfdnomaaDoorGs
import Derived.Test.YtoiiimbhfdnomaaDoorProg
import Derived.KernelRfl
set_option linter.unusedSimpArgs false
set_option linter.unusedVariables false
namespace Go.Proofs.YtoiiimbhfdnomaaDoor
open Go Go.Iv Go.Gv
set_option maxRecDepth 100000
set_option linter.unusedVariables false
noncomputable def alive (_n : Nat) : Option (Bool × Unit) :=
 some (true, ())
noncomputable def alive_it : FnIt := ⟨5, [], [(false, .bool)], 3, fun n _ => alive n⟩
theorem alive_ok (n : Nat) : FnOK Tryd.prog hint shT alive_it n :=
  FnOK.of (hk := fun β => (Known.mk [] []).hk β) (sh := shT) (fun m _ => KnownOK.hook KnownOK.nil m) (fun x => by kernel_rfl)
noncomputable def L3_8_Xexit0 : Tm := ⟨[], [(64, .cells 41 [.int .i64] true), (65, .cells 41 [.int .i64] true), (66, .cells 43 [.int .i64] true)], 67, 67, 1003⟩
noncomputable def L3_8_Xret : Tm := ⟨[(4, .one (.bool))], [(64, .cells 41 [.int .i64] true), (65, .cells 41 [.int .i64] true), (66, .cells 43 [.int .i64] true)], 67, 67, 1003⟩
noncomputable def L3_8_T : Tm := ⟨[(1, .one (.lst (.int .i64))), (6, .one (.fix (TV.ptr 64 0))), (7, .one (.fix (TV.ptr 65 0))), (8, .one (.fix (TV.ptr 66 0))), (9, .one (.int .i64))], [(64, .cells 41 [.int .i64] true), (65, .cells 41 [.int .i64] true), (66, .cells 43 [.int .i64] true)], 67, 67, 1003⟩
noncomputable def L3_8 : Nat → (List Int) → Int → Int → Int → Int → Option ((Unit × ((Int × Unit) × ((Int × Unit) × ((Int × Unit) × Unit)))) ⊕ ((Bool × Unit) × ((Int × Unit) × ((Int × Unit) × ((Int × Unit) × Unit)))))
 | 0, _, _, _, _, _ => none
 | n + 1, t1, t9, c64_0, c65_0, c66_0 =>
  bif (ilt t9 (len t1)) then
   bif (ilt t9 (1 : Int)) then
    bif (ile (0 : Int) t9) then
    Option.bind (t1[(Int.toNat t9)]?) fun x15 =>
    bif (ilt x15 (1 : Int)) then
     bif (ile (0 : Int) t9) then
     Option.bind (t1[(Int.toNat t9)]?) fun x16 =>
     bif (ilt x16 (1 : Int)) then
      L3_8 n t1 (IntKind.wrap .i64 (t9 + (1 : Int))) (andI Go.IntKind.i64 (IntKind.wrap .i64 ((IntKind.wrap .i64 (c64_0 * (1664525 : Int))) + (1013904223 : Int))) (4294967295 : Int)) (andI Go.IntKind.i64 (IntKind.wrap .i64 ((IntKind.wrap .i64 (c65_0 * (1664525 : Int))) + (1013904223 : Int))) (4294967295 : Int)) (andI Go.IntKind.i64 (IntKind.wrap .i64 ((IntKind.wrap .i64 (c66_0 * (1664525 : Int))) + (1013904223 : Int))) (4294967295 : Int))
     else
     bif (x16 != (0 : Int)) then
     bif ((0 : Int) != (Int.tmod (shrI Go.IntKind.i64 (andI Go.IntKind.i64 (IntKind.wrap .i64 ((IntKind.wrap .i64 (c66_0 * (1664525 : Int))) + (1013904223 : Int))) (4294967295 : Int)) 8) x16)) then
      some (.inr ((false, ()), (((andI Go.IntKind.i64 (IntKind.wrap .i64 ((IntKind.wrap .i64 (c64_0 * (1664525 : Int))) + (1013904223 : Int))) (4294967295 : Int)), ()), (((andI Go.IntKind.i64 (IntKind.wrap .i64 ((IntKind.wrap .i64 (c65_0 * (1664525 : Int))) + (1013904223 : Int))) (4294967295 : Int)), ()), (((andI Go.IntKind.i64 (IntKind.wrap .i64 ((IntKind.wrap .i64 (c66_0 * (1664525 : Int))) + (1013904223 : Int))) (4294967295 : Int)), ()), ())))))
     else
     L3_8 n t1 (IntKind.wrap .i64 (t9 + (1 : Int))) (andI Go.IntKind.i64 (IntKind.wrap .i64 ((IntKind.wrap .i64 (c64_0 * (1664525 : Int))) + (1013904223 : Int))) (4294967295 : Int)) (andI Go.IntKind.i64 (IntKind.wrap .i64 ((IntKind.wrap .i64 (c65_0 * (1664525 : Int))) + (1013904223 : Int))) (4294967295 : Int)) (andI Go.IntKind.i64 (IntKind.wrap .i64 ((IntKind.wrap .i64 (c66_0 * (1664525 : Int))) + (1013904223 : Int))) (4294967295 : Int))
     else none
     else none
    else
    bif (x15 != (0 : Int)) then
    bif (ile (0 : Int) t9) then
    Option.bind (t1[(Int.toNat t9)]?) fun x17 =>
    bif (ilt x17 (1 : Int)) then
     bif ((Int.tmod (shrI Go.IntKind.i64 (andI Go.IntKind.i64 (IntKind.wrap .i64 ((IntKind.wrap .i64 (c64_0 * (1664525 : Int))) + (1013904223 : Int))) (4294967295 : Int)) 8) x15) != (0 : Int)) then
      some (.inr ((false, ()), (((andI Go.IntKind.i64 (IntKind.wrap .i64 ((IntKind.wrap .i64 (c64_0 * (1664525 : Int))) + (1013904223 : Int))) (4294967295 : Int)), ()), (((andI Go.IntKind.i64 (IntKind.wrap .i64 ((IntKind.wrap .i64 (c65_0 * (1664525 : Int))) + (1013904223 : Int))) (4294967295 : Int)), ()), (((andI Go.IntKind.i64 (IntKind.wrap .i64 ((IntKind.wrap .i64 (c66_0 * (1664525 : Int))) + (1013904223 : Int))) (4294967295 : Int)), ()), ())))))
     else
     L3_8 n t1 (IntKind.wrap .i64 (t9 + (1 : Int))) (andI Go.IntKind.i64 (IntKind.wrap .i64 ((IntKind.wrap .i64 (c64_0 * (1664525 : Int))) + (1013904223 : Int))) (4294967295 : Int)) (andI Go.IntKind.i64 (IntKind.wrap .i64 ((IntKind.wrap .i64 (c65_0 * (1664525 : Int))) + (1013904223 : Int))) (4294967295 : Int)) (andI Go.IntKind.i64 (IntKind.wrap .i64 ((IntKind.wrap .i64 (c66_0 * (1664525 : Int))) + (1013904223 : Int))) (4294967295 : Int))
    else
    bif (x17 != (0 : Int)) then
    bif ((Int.tmod (shrI Go.IntKind.i64 (andI Go.IntKind.i64 (IntKind.wrap .i64 ((IntKind.wrap .i64 (c64_0 * (1664525 : Int))) + (1013904223 : Int))) (4294967295 : Int)) 8) x15) != (Int.tmod (shrI Go.IntKind.i64 (andI Go.IntKind.i64 (IntKind.wrap .i64 ((IntKind.wrap .i64 (c66_0 * (1664525 : Int))) + (1013904223 : Int))) (4294967295 : Int)) 8) x17)) then
     some (.inr ((false, ()), (((andI Go.IntKind.i64 (IntKind.wrap .i64 ((IntKind.wrap .i64 (c64_0 * (1664525 : Int))) + (1013904223 : Int))) (4294967295 : Int)), ()), (((andI Go.IntKind.i64 (IntKind.wrap .i64 ((IntKind.wrap .i64 (c65_0 * (1664525 : Int))) + (1013904223 : Int))) (4294967295 : Int)), ()), (((andI Go.IntKind.i64 (IntKind.wrap .i64 ((IntKind.wrap .i64 (c66_0 * (1664525 : Int))) + (1013904223 : Int))) (4294967295 : Int)), ()), ())))))
    else
    L3_8 n t1 (IntKind.wrap .i64 (t9 + (1 : Int))) (andI Go.IntKind.i64 (IntKind.wrap .i64 ((IntKind.wrap .i64 (c64_0 * (1664525 : Int))) + (1013904223 : Int))) (4294967295 : Int)) (andI Go.IntKind.i64 (IntKind.wrap .i64 ((IntKind.wrap .i64 (c65_0 * (1664525 : Int))) + (1013904223 : Int))) (4294967295 : Int)) (andI Go.IntKind.i64 (IntKind.wrap .i64 ((IntKind.wrap .i64 (c66_0 * (1664525 : Int))) + (1013904223 : Int))) (4294967295 : Int))
    else none
    else none
    else none
    else none
   else
   bif (t9 != (0 : Int)) then
   bif (ile (0 : Int) t9) then
   Option.bind (t1[(Int.toNat t9)]?) fun x18 =>
   bif (ilt x18 (1 : Int)) then
    bif (ile (0 : Int) t9) then
    Option.bind (t1[(Int.toNat t9)]?) fun x19 =>
    bif (ilt x19 (1 : Int)) then
     L3_8 n t1 (IntKind.wrap .i64 (t9 + (1 : Int))) (andI Go.IntKind.i64 (IntKind.wrap .i64 ((IntKind.wrap .i64 (c64_0 * (1664525 : Int))) + (1013904223 : Int))) (4294967295 : Int)) (andI Go.IntKind.i64 (IntKind.wrap .i64 ((IntKind.wrap .i64 (c65_0 * (1664525 : Int))) + (1013904223 : Int))) (4294967295 : Int)) (andI Go.IntKind.i64 (IntKind.wrap .i64 ((IntKind.wrap .i64 (c66_0 * (1664525 : Int))) + (1013904223 : Int))) (4294967295 : Int))
    else
    bif (x19 != (0 : Int)) then
    bif ((0 : Int) != (Int.tmod (shrI Go.IntKind.i64 (andI Go.IntKind.i64 (IntKind.wrap .i64 ((IntKind.wrap .i64 (c66_0 * (1664525 : Int))) + (1013904223 : Int))) (4294967295 : Int)) 8) x19)) then
     some (.inr ((false, ()), (((andI Go.IntKind.i64 (IntKind.wrap .i64 ((IntKind.wrap .i64 (c64_0 * (1664525 : Int))) + (1013904223 : Int))) (4294967295 : Int)), ()), (((andI Go.IntKind.i64 (IntKind.wrap .i64 ((IntKind.wrap .i64 (c65_0 * (1664525 : Int))) + (1013904223 : Int))) (4294967295 : Int)), ()), (((andI Go.IntKind.i64 (IntKind.wrap .i64 ((IntKind.wrap .i64 (c66_0 * (1664525 : Int))) + (1013904223 : Int))) (4294967295 : Int)), ()), ())))))
    else
    L3_8 n t1 (IntKind.wrap .i64 (t9 + (1 : Int))) (andI Go.IntKind.i64 (IntKind.wrap .i64 ((IntKind.wrap .i64 (c64_0 * (1664525 : Int))) + (1013904223 : Int))) (4294967295 : Int)) (andI Go.IntKind.i64 (IntKind.wrap .i64 ((IntKind.wrap .i64 (c65_0 * (1664525 : Int))) + (1013904223 : Int))) (4294967295 : Int)) (andI Go.IntKind.i64 (IntKind.wrap .i64 ((IntKind.wrap .i64 (c66_0 * (1664525 : Int))) + (1013904223 : Int))) (4294967295 : Int))
    else none
    else none
   else
   bif (x18 != (0 : Int)) then
   bif (ile (0 : Int) t9) then
   Option.bind (t1[(Int.toNat t9)]?) fun x20 =>
   bif (ilt x20 (1 : Int)) then
    bif ((Int.tmod (shrI Go.IntKind.i64 (andI Go.IntKind.i64 (IntKind.wrap .i64 ((IntKind.wrap .i64 (c64_0 * (1664525 : Int))) + (1013904223 : Int))) (4294967295 : Int)) 8) x18) != (0 : Int)) then
     some (.inr ((false, ()), (((andI Go.IntKind.i64 (IntKind.wrap .i64 ((IntKind.wrap .i64 (c64_0 * (1664525 : Int))) + (1013904223 : Int))) (4294967295 : Int)), ()), (((andI Go.IntKind.i64 (IntKind.wrap .i64 ((IntKind.wrap .i64 (c65_0 * (1664525 : Int))) + (1013904223 : Int))) (4294967295 : Int)), ()), (((andI Go.IntKind.i64 (IntKind.wrap .i64 ((IntKind.wrap .i64 (c66_0 * (1664525 : Int))) + (1013904223 : Int))) (4294967295 : Int)), ()), ())))))
    else
    L3_8 n t1 (IntKind.wrap .i64 (t9 + (1 : Int))) (andI Go.IntKind.i64 (IntKind.wrap .i64 ((IntKind.wrap .i64 (c64_0 * (1664525 : Int))) + (1013904223 : Int))) (4294967295 : Int)) (andI Go.IntKind.i64 (IntKind.wrap .i64 ((IntKind.wrap .i64 (c65_0 * (1664525 : Int))) + (1013904223 : Int))) (4294967295 : Int)) (andI Go.IntKind.i64 (IntKind.wrap .i64 ((IntKind.wrap .i64 (c66_0 * (1664525 : Int))) + (1013904223 : Int))) (4294967295 : Int))
   else
   bif (x20 != (0 : Int)) then
   bif ((Int.tmod (shrI Go.IntKind.i64 (andI Go.IntKind.i64 (IntKind.wrap .i64 ((IntKind.wrap .i64 (c64_0 * (1664525 : Int))) + (1013904223 : Int))) (4294967295 : Int)) 8) x18) != (Int.tmod (shrI Go.IntKind.i64 (andI Go.IntKind.i64 (IntKind.wrap .i64 ((IntKind.wrap .i64 (c66_0 * (1664525 : Int))) + (1013904223 : Int))) (4294967295 : Int)) 8) x20)) then
    some (.inr ((false, ()), (((andI Go.IntKind.i64 (IntKind.wrap .i64 ((IntKind.wrap .i64 (c64_0 * (1664525 : Int))) + (1013904223 : Int))) (4294967295 : Int)), ()), (((andI Go.IntKind.i64 (IntKind.wrap .i64 ((IntKind.wrap .i64 (c65_0 * (1664525 : Int))) + (1013904223 : Int))) (4294967295 : Int)), ()), (((andI Go.IntKind.i64 (IntKind.wrap .i64 ((IntKind.wrap .i64 (c66_0 * (1664525 : Int))) + (1013904223 : Int))) (4294967295 : Int)), ()), ())))))
   else
   L3_8 n t1 (IntKind.wrap .i64 (t9 + (1 : Int))) (andI Go.IntKind.i64 (IntKind.wrap .i64 ((IntKind.wrap .i64 (c64_0 * (1664525 : Int))) + (1013904223 : Int))) (4294967295 : Int)) (andI Go.IntKind.i64 (IntKind.wrap .i64 ((IntKind.wrap .i64 (c65_0 * (1664525 : Int))) + (1013904223 : Int))) (4294967295 : Int)) (andI Go.IntKind.i64 (IntKind.wrap .i64 ((IntKind.wrap .i64 (c66_0 * (1664525 : Int))) + (1013904223 : Int))) (4294967295 : Int))
   else none
   else none
   else none
   else none
   else none
  else
  some (.inl ((), ((c64_0, ()), ((c65_0, ()), ((c66_0, ()), ())))))
noncomputable def L3_8_it : LoopIt := ⟨3, 8, none, L3_8_T, [(.exit 0, L3_8_Xexit0), (.ret, L3_8_Xret)], 1, fun n x => L3_8 n x.1.1 x.1.2.2.2.2.1 x.2.1.1 x.2.2.1.1 x.2.2.2.1.1, []⟩
theorem L3_8_Xexit0_ok : L3_8_Xexit0.ok Tryd.prog hint := by
  intro p hp
  simp only [L3_8_Xexit0, List.mem_cons, List.not_mem_nil, or_false] at hp
  rcases hp with rfl | rfl | rfl
  · trivial
  · trivial
  · trivial
theorem L3_8_Xret_ok : L3_8_Xret.ok Tryd.prog hint := by
  intro p hp
  simp only [L3_8_Xret, List.mem_cons, List.not_mem_nil, or_false] at hp
  rcases hp with rfl | rfl | rfl
  · trivial
  · trivial
  · trivial
theorem L3_8_T_ok : L3_8_T.ok Tryd.prog hint := by
  intro p hp
  simp only [L3_8_T, List.mem_cons, List.not_mem_nil, or_false] at hp
  rcases hp with rfl | rfl | rfl
  · trivial
  · trivial
  · trivial
theorem L3_8_ok : ∀ n, LoopOK Tryd.prog hint shT L3_8_it n :=
  LoopOK.of (hk := fun β => (Known.mk [] []).hk β) (sh := shT) (OneLoop.of (by kernel_rfl)) L3_8_T_ok ⟨⟨L3_8_Xexit0_ok, Nat.le_refl _, Nat.le_refl _⟩, ⟨L3_8_Xret_ok, Nat.le_refl _, Nat.le_refl _⟩, trivial⟩ (fun m => KnownOK.hook KnownOK.nil m)
    (fun _ => by kernel_rfl) (fun m x => by kernel_rfl)
noncomputable def lots (n : Nat) (seed : Int) (l : List Int) : Option (Bool × Unit) :=
 Option.bind (alive n ) fun y0 =>
 Option.bind (bif (!y0.1) then
   some true
  else
  some (ilt (200 : Int) (len l))) fun b2 =>
 bif b2 then
  some (y0.1, ())
 else
 Option.bind (L3_8 (n + 3) l (0 : Int) (andI Go.IntKind.i64 seed (4294967295 : Int)) (andI Go.IntKind.i64 (IntKind.wrap .i64 (seed + (1 : Int))) (4294967295 : Int)) (andI Go.IntKind.i64 seed (4294967295 : Int))) fun y21 =>
 match y21 with
  | .inl _ =>
   some (true, ())
  | .inr y23 =>
   some (y23.1.1, ())
noncomputable def lots_it : FnIt := ⟨3, [(false, (.int .i64)), (false, (.slc (.int .i64)))], [(false, .bool)], 4, fun n x => lots n x.1 x.2.1⟩
theorem lots_ok (n : Nat) : FnOK Tryd.prog hint shT lots_it n :=
  FnOK.of (hk := fun β => (Known.mk [alive_it] [L3_8_it]).hk β) (sh := shT) (fun m _ => KnownOK.hook ((KnownOK.nil.fn alive_ok).loop L3_8_ok L3_8_T_ok) m) (fun x => by kernel_rfl)
end Go.Proofs.YtoiiimbhfdnomaaDoor
