/- Plain functions for the program's. -/
import Derived.Test.YteknbnkjelmfaaaGreatDoorFa
import Derived.Test.YteknbnkjelmfaaaGreatDoorGvSpecX
import Derived.Test.YteknbnkjelmfaaaGreatDoorGvPlain
import Derived.Test.YteknbnkjelmfaaaGreatDoorProg
import Derived.Test.YteknbnkjelmfaaaGreatDoorGs
import Derived.Test.YteknbnkjelmfaaaGreatDoorAl
set_option linter.unusedSimpArgs false
set_option linter.unusedVariables false
namespace Go.Proofs.YteknbnkjelmfaaaGreatDoor
open Go Go.Iv Go.Gv
set_option maxRecDepth 100000
set_option linter.unusedVariables false
noncomputable def blank (_n : Nat) (c : Int) : Option (Bool × Unit) :=
 Option.bind (bif (c == (32 : Int)) then
  some true
 else
 some (c == (9 : Int))) fun b1 =>
 some (b1, ())
noncomputable def blank_it : FnIt := ⟨131, [(false, (.int .i64))], [(false, .bool)], 0, fun n x => blank n x.1⟩
theorem blank_ok (n : Nat) : FnOK Tryz.prog hint shT blank_it n :=
 FnOK.of (hk := fun β => (Known.mk [] []).hk β) (sh := shT) (fun m _ => KnownOK.hook KnownOK.nil m) (fun x => by kernel_rfl)
noncomputable def L98_3_Xexit0 : Tm := ⟨[(3, .one (.all 65 3 (.int .i64) .ex))], [(64, .iter)], 65, 66, 1001⟩
noncomputable def L98_3_T : Tm := ⟨[(3, .one (.all 65 3 (.int .i64) .ex)), (7, .one (.fix (TV.ptr 64 0)))], [(64, .iter)], 65, 66, 1001⟩
noncomputable def L98_3 : Nat → (List Int) → (List UInt8) → Nat → Option (((List Int) × Unit) × (((List UInt8) × Nat) × Unit))
 | 0, _, _, _ => none
 | n + 1, t3, i64, p64 =>
 bif (Nat.blt p64 (List.length i64)) then
  bif (room (((List.length t3) + (List.length ((IntKind.wrap .i64 (((Go.Utf8.decode (ba i64) p64).1 : Nat) : Int)) :: ([] : List Int)))) * 9)) then
  L98_3 n (t3 ++ ((IntKind.wrap .i64 (((Go.Utf8.decode (ba i64) p64).1 : Nat) : Int)) :: ([] : List Int))) i64 (p64 + (Go.Utf8.decode (ba i64) p64).2)
  else none
 else
 some ((t3, ()), ((i64, p64), ()))
noncomputable def L98_3_it : LoopIt := ⟨98, 3, none, L98_3_T, [(.exit 0, L98_3_Xexit0)], 0, fun n x => L98_3 n x.1.1 x.2.1.1 x.2.1.2, []⟩
theorem L98_3_Xexit0_ok : L98_3_Xexit0.ok Tryz.prog hint := by
 intro p hp
 simp only [L98_3_Xexit0, List.mem_cons, List.not_mem_nil, or_false] at hp
 rcases hp with rfl
 ·trivial
theorem L98_3_T_ok : L98_3_T.ok Tryz.prog hint := by
 intro p hp
 simp only [L98_3_T, List.mem_cons, List.not_mem_nil, or_false] at hp
 rcases hp with rfl
 ·trivial
theorem L98_3_ok : ∀ n, LoopOK Tryz.prog hint shT L98_3_it n :=
 LoopOK.of (hk := fun β => (Known.mk [] []).hk β) (sh := shT) (OneLoop.of (by kernel_rfl)) L98_3_T_ok ⟨⟨L98_3_Xexit0_ok, Nat.le_refl _, Nat.le_refl _⟩, trivial⟩ (fun m => KnownOK.hook KnownOK.nil m)
  (fun _ => by kernel_rfl) (fun m x => by kernel_rfl)
noncomputable def points (n : Nat) (s : List UInt8) : Option ((List Int) × Unit) :=
 Option.bind (L98_3 (n + 1) ([] : List Int) s 0) fun y0 =>
 some (y0.1.1, ())
noncomputable def points_it : FnIt := ⟨98, [(false, .str)], [(false, (.slc (.int .i64)))], 1, fun n x => points n x.1⟩
theorem points_ok (n : Nat) : FnOK Tryz.prog hint shT points_it n :=
 FnOK.of (hk := fun β => (Known.mk [] [L98_3_it]).hk β) (sh := shT) (fun m _ => KnownOK.hook (KnownOK.nil.loop L98_3_ok L98_3_T_ok) m) (fun x => by kernel_rfl)
noncomputable def L100_2_Xexit0 : Tm := ⟨[], [], 64, 64, 1000⟩
noncomputable def L100_2_Xret : Tm := ⟨[(2, .one (.bool))], [], 64, 64, 1000⟩
noncomputable def L100_2_T : Tm := ⟨[(5, .one (.lst (.int .i64))), (6, .one (.int .i64)), (7, .one (.int .i64))], [], 64, 64, 1000⟩
noncomputable def L100_2 : Nat → (List Int) → Int → Int → Option ((Unit × Unit) ⊕ ((Bool × Unit) × Unit))
 | 0, _, _, _ => none
 | n + 1, t5, t6, t7 =>
 bif (ilt t7 t6) then
  bif (ile (0 : Int) t7) then
  Option.bind (t5[(Int.toNat t7)]?) fun x18 =>
  bif (x18 == (9 : Int)) then
  bif (x18 == (10 : Int)) then
   some (.inr ((false, ()), ()))
  else
  bif (x18 == (13 : Int)) then
   some (.inr ((false, ()), ()))
  else
  bif (x18 == (65279 : Int)) then
   some (.inr ((false, ()), ()))
  else
  L100_2 n t5 t6 (IntKind.wrap .i64 (t7 + (1 : Int)))
  else
  bif (x18 == (10 : Int)) then
  bif (x18 == (10 : Int)) then
   some (.inr ((false, ()), ()))
  else
  bif (x18 == (13 : Int)) then
   some (.inr ((false, ()), ()))
  else
  bif (x18 == (65279 : Int)) then
   some (.inr ((false, ()), ()))
  else
  L100_2 n t5 t6 (IntKind.wrap .i64 (t7 + (1 : Int)))
  else
  bif (x18 == (13 : Int)) then
  bif (x18 == (10 : Int)) then
   some (.inr ((false, ()), ()))
  else
  bif (x18 == (13 : Int)) then
   some (.inr ((false, ()), ()))
  else
  bif (x18 == (65279 : Int)) then
   some (.inr ((false, ()), ()))
  else
  L100_2 n t5 t6 (IntKind.wrap .i64 (t7 + (1 : Int)))
  else
  bif (x18 == (133 : Int)) then
  bif (x18 == (10 : Int)) then
   some (.inr ((false, ()), ()))
  else
  bif (x18 == (13 : Int)) then
   some (.inr ((false, ()), ()))
  else
  bif (x18 == (65279 : Int)) then
   some (.inr ((false, ()), ()))
  else
  L100_2 n t5 t6 (IntKind.wrap .i64 (t7 + (1 : Int)))
  else
  Option.bind (bif (ile (32 : Int) x18) then
   some (ile x18 (126 : Int))
  else
  some false) fun b20 =>
  bif b20 then
  bif (x18 == (10 : Int)) then
   some (.inr ((false, ()), ()))
  else
  bif (x18 == (13 : Int)) then
   some (.inr ((false, ()), ()))
  else
  bif (x18 == (65279 : Int)) then
   some (.inr ((false, ()), ()))
  else
  L100_2 n t5 t6 (IntKind.wrap .i64 (t7 + (1 : Int)))
  else
  Option.bind (bif (ile (160 : Int) x18) then
   some (ile x18 (55295 : Int))
  else
  some false) fun b22 =>
  bif b22 then
  bif (x18 == (10 : Int)) then
   some (.inr ((false, ()), ()))
  else
  bif (x18 == (13 : Int)) then
   some (.inr ((false, ()), ()))
  else
  bif (x18 == (65279 : Int)) then
   some (.inr ((false, ()), ()))
  else
  L100_2 n t5 t6 (IntKind.wrap .i64 (t7 + (1 : Int)))
  else
  Option.bind (bif (ile (57344 : Int) x18) then
   some (ile x18 (65533 : Int))
  else
  some false) fun b24 =>
  bif b24 then
  bif (x18 == (10 : Int)) then
   some (.inr ((false, ()), ()))
  else
  bif (x18 == (13 : Int)) then
   some (.inr ((false, ()), ()))
  else
  bif (x18 == (65279 : Int)) then
   some (.inr ((false, ()), ()))
  else
  L100_2 n t5 t6 (IntKind.wrap .i64 (t7 + (1 : Int)))
  else
  Option.bind (bif (ile (65536 : Int) x18) then
   some (ile x18 (1114111 : Int))
  else
  some false) fun b26 =>
  bif (!b26) then
  some (.inr ((false, ()), ()))
  else
  bif (x18 == (10 : Int)) then
  some (.inr ((false, ()), ()))
  else
  bif (x18 == (13 : Int)) then
  some (.inr ((false, ()), ()))
  else
  bif (x18 == (65279 : Int)) then
  some (.inr ((false, ()), ()))
  else
  L100_2 n t5 t6 (IntKind.wrap .i64 (t7 + (1 : Int)))
  else none
 else
 some (.inl ((), ()))
noncomputable def L100_2_it : LoopIt := ⟨100, 2, none, L100_2_T, [(.exit 0, L100_2_Xexit0), (.ret, L100_2_Xret)], 2, fun n x => L100_2 n x.1.1 x.1.2.1 x.1.2.2.1, []⟩
theorem L100_2_Xexit0_ok : L100_2_Xexit0.ok Tryz.prog hint := by
 intro p hp
 cases hp
theorem L100_2_Xret_ok : L100_2_Xret.ok Tryz.prog hint := by
 intro p hp
 cases hp
theorem L100_2_T_ok : L100_2_T.ok Tryz.prog hint := by
 intro p hp
 cases hp
theorem L100_2_ok : ∀ n, LoopOK Tryz.prog hint shT L100_2_it n :=
 LoopOK.of (hk := fun β => (Known.mk [] []).hk β) (sh := shT) (OneLoop.of (by kernel_rfl)) L100_2_T_ok ⟨⟨L100_2_Xexit0_ok, Nat.le_refl _, Nat.le_refl _⟩, ⟨L100_2_Xret_ok, Nat.le_refl _, Nat.le_refl _⟩, trivial⟩ (fun m => KnownOK.hook KnownOK.nil m)
  (fun _ => by kernel_rfl) (fun m x => by kernel_rfl)
noncomputable def single (n : Nat) (l : List Int) : Option (Bool × Unit) :=
 Option.bind (L100_2 n l (len l) (0 : Int)) fun y27 =>
 match y27 with
 | .inl _ =>
  some (true, ())
 | .inr y29 =>
  some (y29.1.1, ())
noncomputable def single_it : FnIt := ⟨100, [(false, (.slc (.int .i64)))], [(false, .bool)], 2, fun n x => single n x.1⟩
theorem single_ok (n : Nat) : FnOK Tryz.prog hint shT single_it n :=
 FnOK.of (hk := fun β => (Known.mk [] [L100_2_it]).hk β) (sh := shT) (fun m _ => KnownOK.hook (KnownOK.nil.loop L100_2_ok L100_2_T_ok) m) (fun x => by kernel_rfl)
noncomputable def may (n : Nat) (style : Int) (s : List UInt8) (_flow : Bool) : Option (Bool × Unit) :=
 bif (Nat.ble (List.length s) 9223372036854775807) then
 bif (!(Go.Lib.validD s)) then
 some (false, ())
 else
 Option.bind (points (n + 1) s) fun y0 =>
 bif (style == (1 : Int)) then
 none
 else
 bif (style == (2 : Int)) then
 Option.bind (single n y0.1) fun y1 =>
 some (y1.1, ())
 else
 bif (style == (3 : Int)) then
 some (true, ())
 else
 bif (style == (4 : Int)) then
 none
 else
 bif (style == (5 : Int)) then
 none
 else
 some (false, ())
 else none
noncomputable def may_it : FnIt := ⟨82, [(false, (.int .i64)), (false, .str), (false, .bool)], [(false, .bool)], 3, fun n x => may n x.1 x.2.1 x.2.2.1⟩
theorem may_ok (n : Nat) : FnOK Tryz.prog hint shT may_it n :=
 FnOK.of (hk := fun β => (Known.mk [single_it, points_it] []).hk β) (sh := shT) (fun m _ => KnownOK.hook ((KnownOK.nil.fn points_ok).fn single_ok) m) (fun x => by kernel_rfl)
noncomputable def dflt (_n : Nat) (k : Int) : Option ((List UInt8) × Unit) :=
 bif (k == (1 : Int)) then
 some (([(116 : UInt8), (97 : UInt8), (103 : UInt8), (58 : UInt8), (121 : UInt8), (97 : UInt8), (109 : UInt8), (108 : UInt8), (46 : UInt8), (111 : UInt8), (114 : UInt8), (103 : UInt8), (44 : UInt8), (50 : UInt8), (48 : UInt8), (48 : UInt8), (50 : UInt8), (58 : UInt8), (115 : UInt8), (116 : UInt8), (114 : UInt8)] : List UInt8), ())
 else
 bif (k == (2 : Int)) then
 some (([(116 : UInt8), (97 : UInt8), (103 : UInt8), (58 : UInt8), (121 : UInt8), (97 : UInt8), (109 : UInt8), (108 : UInt8), (46 : UInt8), (111 : UInt8), (114 : UInt8), (103 : UInt8), (44 : UInt8), (50 : UInt8), (48 : UInt8), (48 : UInt8), (50 : UInt8), (58 : UInt8), (115 : UInt8), (101 : UInt8), (113 : UInt8)] : List UInt8), ())
 else
 bif (k == (3 : Int)) then
 some (([(116 : UInt8), (97 : UInt8), (103 : UInt8), (58 : UInt8), (121 : UInt8), (97 : UInt8), (109 : UInt8), (108 : UInt8), (46 : UInt8), (111 : UInt8), (114 : UInt8), (103 : UInt8), (44 : UInt8), (50 : UInt8), (48 : UInt8), (48 : UInt8), (50 : UInt8), (58 : UInt8), (109 : UInt8), (97 : UInt8), (112 : UInt8)] : List UInt8), ())
 else
 some (([] : List UInt8), ())
noncomputable def dflt_it : FnIt := ⟨97, [(false, (.int .i64))], [(false, .str)], 0, fun n x => dflt n x.1⟩
theorem dflt_ok (n : Nat) : FnOK Tryz.prog hint shT dflt_it n :=
 FnOK.of (hk := fun β => (Known.mk [] []).hk β) (sh := shT) (fun m _ => KnownOK.hook KnownOK.nil m) (fun x => by kernel_rfl)
noncomputable def elided (n : Nat) (k : Int) (s : List UInt8) : Option ((List UInt8) × Unit) :=
 Option.bind (dflt n k) fun y0 =>
 bif (s == y0.1) then
 some (([] : List UInt8), ())
 else
 some (s, ())
noncomputable def elided_it : FnIt := ⟨81, [(false, (.int .i64)), (false, .str)], [(false, .str)], 1, fun n x => elided n x.1 x.2.1⟩
theorem elided_ok (n : Nat) : FnOK Tryz.prog hint shT elided_it n :=
 FnOK.of (hk := fun β => (Known.mk [dflt_it] []).hk β) (sh := shT) (fun m _ => KnownOK.hook (KnownOK.nil.fn dflt_ok) m) (fun x => by kernel_rfl)
end Go.Proofs.YteknbnkjelmfaaaGreatDoor
/- Plain functions for the program's. -/
namespace Go.Proofs.YteknbnkjelmfaaaGreatDoor
open Go Go.Iv Go.Gv
set_option maxRecDepth 100000
set_option linter.unusedVariables false
noncomputable def plan_it0 (D : Nat) (F : Nat → argsTy [(false, (.int .i64)), (false, .bool), (false, (.int .i64))] × objTy [(64, .cells 53 [.lst (.cons (.int .i64) (.cons .str (.cons .str (.cons (.slc (.int .i64)) .bool)))), .lst (.int .i64), .int .i64, .int .i64, .int .i64, .bool, .bool, .fix (TV.mp 65), .fix (TV.mp 66), .int .i64, .all 67 45 (.cons (.int .i64) (.cons .str (.cons .str (.cons .str (.cons (.int .i64) .bool))))) .any] true), (65, .map 3 false false (.int .i64) (.int .i64) false), (66, .map 3 false false (.int .i64) .str false)] → Option (argsTy [(false, (.int .i64))] × objTy [(64, .cells 53 [.lst (.cons (.int .i64) (.cons .str (.cons .str (.cons (.slc (.int .i64)) .bool)))), .lst (.int .i64), .int .i64, .int .i64, .int .i64, .bool, .bool, .fix (TV.mp 65), .fix (TV.mp 66), .int .i64, .all 67 45 (.cons (.int .i64) (.cons .str (.cons .str (.cons .str (.cons (.int .i64) .bool))))) .any] true), (65, .map 3 false false (.int .i64) (.int .i64) false), (66, .map 3 false false (.int .i64) .str false)])) : PFn := ⟨35, [(TV.ptr 64 0)], [(false, (.int .i64)), (false, .bool), (false, (.int .i64))], [(false, (.int .i64))], 67, [(64, .cells 53 [.lst (.cons (.int .i64) (.cons .str (.cons .str (.cons (.slc (.int .i64)) .bool)))), .lst (.int .i64), .int .i64, .int .i64, .int .i64, .bool, .bool, .fix (TV.mp 65), .fix (TV.mp 66), .int .i64, .all 67 45 (.cons (.int .i64) (.cons .str (.cons .str (.cons .str (.cons (.int .i64) .bool))))) .any] true), (65, .map 3 false false (.int .i64) (.int .i64) false), (66, .map 3 false false (.int .i64) .str false)], 68, [(64, .cells 53 [.lst (.cons (.int .i64) (.cons .str (.cons .str (.cons (.slc (.int .i64)) .bool)))), .lst (.int .i64), .int .i64, .int .i64, .int .i64, .bool, .bool, .fix (TV.mp 65), .fix (TV.mp 66), .int .i64, .all 67 45 (.cons (.int .i64) (.cons .str (.cons .str (.cons .str (.cons (.int .i64) .bool))))) .any] true), (65, .map 3 false false (.int .i64) (.int .i64) false), (66, .map 3 false false (.int .i64) .str false)], 68, D, F⟩
theorem plan_Tok (D : Nat) (F) : (plan_it0 D F).T.ok Tryz.prog hint := by
 intro p hp
 simp only [plan_it0, PFn.T, List.mem_cons, List.not_mem_nil, or_false] at hp
 rcases hp with rfl | rfl | rfl
 ·trivial
 ·trivial
 ·trivial
theorem plan_T2ok (D : Nat) (F) : (plan_it0 D F).T2.ok Tryz.prog hint := by
 intro p hp
 simp only [plan_it0, PFn.T2, List.mem_cons, List.not_mem_nil, or_false] at hp
 rcases hp with rfl | rfl | rfl
 ·trivial
 ·trivial
 ·trivial
noncomputable def plan_or (Fr : Nat → Int → Bool → Int → (List (Int × (List UInt8 × (List UInt8 × (List Int × Bool))))) → (List Int) → Int → Int → Int → Bool → Bool → Int → (List (Int × (List UInt8 × (List UInt8 × (List UInt8 × (Int × Bool)))))) → (List (Int × Int)) → (List (Int × List UInt8)) → Option ((Int × Unit) × (((List (Int × (List UInt8 × (List UInt8 × (List Int × Bool))))) × ((List Int) × (Int × (Int × (Int × (Bool × (Bool × (Unit × (Unit × (Int × ((List (Int × (List UInt8 × (List UInt8 × (List UInt8 × (Int × Bool)))))) × Unit))))))))))) × ((List (Int × Int)) × ((List (Int × List UInt8)) × Unit))))) : PFn := plan_it0 0 (fun n x => Fr n x.1.1 x.1.2.1 x.1.2.2.1 x.2.1.1 x.2.1.2.1 x.2.1.2.2.1 x.2.1.2.2.2.1 x.2.1.2.2.2.2.1 x.2.1.2.2.2.2.2.1 x.2.1.2.2.2.2.2.2.1 x.2.1.2.2.2.2.2.2.2.2.2.1 x.2.1.2.2.2.2.2.2.2.2.2.2.1 x.2.2.1 x.2.2.2.1)
noncomputable def L58_6_Xexit0 : Tm := ⟨[(0, .one (.fix (TV.ptr 64 0))), (11, .one (.int .i64))], [(64, .cells 53 [.lst (.cons (.int .i64) (.cons .str (.cons .str (.cons (.slc (.int .i64)) .bool)))), .lst (.int .i64), .int .i64, .int .i64, .int .i64, .bool, .bool, .fix (TV.mp 65), .fix (TV.mp 66), .int .i64, .all 73 45 (.cons (.int .i64) (.cons .str (.cons .str (.cons .str (.cons (.int .i64) .bool))))) .any] true), (65, .map 3 false false (.int .i64) (.int .i64) false), (66, .map 3 false false (.int .i64) .str false), (69, .cells 40 [.int .i64, .str, .str, .lst (.int .i64), .bool] true)], 73, 74, 1009⟩
noncomputable def L58_6_Xret : Tm := ⟨[(10, .one (.int .i64))], [(64, .cells 53 [.lst (.cons (.int .i64) (.cons .str (.cons .str (.cons (.slc (.int .i64)) .bool)))), .lst (.int .i64), .int .i64, .int .i64, .int .i64, .bool, .bool, .fix (TV.mp 65), .fix (TV.mp 66), .int .i64, .all 73 45 (.cons (.int .i64) (.cons .str (.cons .str (.cons .str (.cons (.int .i64) .bool))))) .any] true), (65, .map 3 false false (.int .i64) (.int .i64) false), (66, .map 3 false false (.int .i64) .str false), (69, .cells 40 [.int .i64, .str, .str, .lst (.int .i64), .bool] true)], 73, 74, 1009⟩
noncomputable def L58_6_T : Tm := ⟨[(0, .one (.fix (TV.ptr 64 0))), (3, .one (.bool)), (4, .one (.int .i64)), (6, .one (.fix (TV.ptr 69 0))), (11, .one (.int .i64)), (43, .one (.lst (.int .i64))), (44, .one (.int .i64)), (45, .one (.int .i64))], [(64, .cells 53 [.lst (.cons (.int .i64) (.cons .str (.cons .str (.cons (.slc (.int .i64)) .bool)))), .lst (.int .i64), .int .i64, .int .i64, .int .i64, .bool, .bool, .fix (TV.mp 65), .fix (TV.mp 66), .int .i64, .all 73 45 (.cons (.int .i64) (.cons .str (.cons .str (.cons .str (.cons (.int .i64) .bool))))) .any] true), (65, .map 3 false false (.int .i64) (.int .i64) false), (66, .map 3 false false (.int .i64) .str false), (69, .cells 40 [.int .i64, .str, .str, .lst (.int .i64), .bool] true)], 73, 74, 1009⟩
noncomputable def L58_6 (Fr : Nat → Int → Bool → Int → (List (Int × (List UInt8 × (List UInt8 × (List Int × Bool))))) → (List Int) → Int → Int → Int → Bool → Bool → Int → (List (Int × (List UInt8 × (List UInt8 × (List UInt8 × (Int × Bool)))))) → (List (Int × Int)) → (List (Int × List UInt8)) → Option ((Int × Unit) × (((List (Int × (List UInt8 × (List UInt8 × (List Int × Bool))))) × ((List Int) × (Int × (Int × (Int × (Bool × (Bool × (Unit × (Unit × (Int × ((List (Int × (List UInt8 × (List UInt8 × (List UInt8 × (Int × Bool)))))) × Unit))))))))))) × ((List (Int × Int)) × ((List (Int × List UInt8)) × Unit))))) : Nat → Bool → Int → Int → (List Int) → Int → Int → (List (Int × (List UInt8 × (List UInt8 × (List Int × Bool))))) → (List Int) → Int → Int → Int → Bool → Bool → Int → (List (Int × (List UInt8 × (List UInt8 × (List UInt8 × (Int × Bool)))))) → (List (Int × Int)) → (List (Int × List UInt8)) → Int → (List UInt8) → (List UInt8) → (List Int) → Bool → Option (((Unit × (Int × Unit)) × (((List (Int × (List UInt8 × (List UInt8 × (List Int × Bool))))) × ((List Int) × (Int × (Int × (Int × (Bool × (Bool × (Unit × (Unit × (Int × ((List (Int × (List UInt8 × (List UInt8 × (List UInt8 × (Int × Bool)))))) × Unit))))))))))) × ((List (Int × Int)) × ((List (Int × List UInt8)) × ((Int × ((List UInt8) × ((List UInt8) × ((List Int) × (Bool × Unit))))) × Unit))))) ⊕ ((Int × Unit) × (((List (Int × (List UInt8 × (List UInt8 × (List Int × Bool))))) × ((List Int) × (Int × (Int × (Int × (Bool × (Bool × (Unit × (Unit × (Int × ((List (Int × (List UInt8 × (List UInt8 × (List UInt8 × (Int × Bool)))))) × Unit))))))))))) × ((List (Int × Int)) × ((List (Int × List UInt8)) × ((Int × ((List UInt8) × ((List UInt8) × ((List Int) × (Bool × Unit))))) × Unit))))))
 | 0, _, _, _, _, _, _, _, _, _, _, _, _, _, _, _, _, _, _, _, _, _, _ => none
 | n + 1, t3, t4, t11, t43, t44, t45, c64_0, c64_1, c64_2, c64_3, c64_4, c64_5, c64_6, c64_9, c64_10, m65, m66, c69_0, c69_1, c69_2, c69_3, c69_4 =>
 bif (ilt t45 t44) then
  bif (ile (0 : Int) t45) then
  Option.bind (t43[(Int.toNat t45)]?) fun x12 =>
  bif t3 then
  Option.bind (Fr (n + 1) x12 true (IntKind.wrap .i64 (t4 + (1 : Int))) c64_0 c64_1 c64_2 c64_3 c64_4 c64_5 c64_6 c64_9 c64_10 m65 m66) fun y13 =>
  bif (y13.1.1 != (0 : Int)) then
   some (.inr ((y13.1.1, ()), ((y13.2.1.1, (y13.2.1.2.1, (y13.2.1.2.2.1, (y13.2.1.2.2.2.1, (y13.2.1.2.2.2.2.1, (y13.2.1.2.2.2.2.2.1, (y13.2.1.2.2.2.2.2.2.1, ((), ((), (y13.2.1.2.2.2.2.2.2.2.2.2.1, (y13.2.1.2.2.2.2.2.2.2.2.2.2.1, ()))))))))))), (y13.2.2.1, (y13.2.2.2.1, ((c69_0, (c69_1, (c69_2, (c69_3, (c69_4, ()))))), ()))))))
  else
  L58_6 Fr n t3 t4 t11 t43 t44 (IntKind.wrap .i64 (t45 + (1 : Int))) y13.2.1.1 y13.2.1.2.1 y13.2.1.2.2.1 y13.2.1.2.2.2.1 y13.2.1.2.2.2.2.1 y13.2.1.2.2.2.2.2.1 y13.2.1.2.2.2.2.2.2.1 y13.2.1.2.2.2.2.2.2.2.2.2.1 y13.2.1.2.2.2.2.2.2.2.2.2.2.1 y13.2.2.1 y13.2.2.2.1 c69_0 c69_1 c69_2 c69_3 c69_4
  else
  bif (c69_0 == (3 : Int)) then
  Option.bind (Fr (n + 1) x12 ((Int.tmod t45 (2 : Int)) == (0 : Int)) (IntKind.wrap .i64 (t4 + (1 : Int))) c64_0 c64_1 c64_2 c64_3 c64_4 c64_5 c64_6 c64_9 c64_10 m65 m66) fun y14 =>
  bif (y14.1.1 != (0 : Int)) then
   some (.inr ((y14.1.1, ()), ((y14.2.1.1, (y14.2.1.2.1, (y14.2.1.2.2.1, (y14.2.1.2.2.2.1, (y14.2.1.2.2.2.2.1, (y14.2.1.2.2.2.2.2.1, (y14.2.1.2.2.2.2.2.2.1, ((), ((), (y14.2.1.2.2.2.2.2.2.2.2.2.1, (y14.2.1.2.2.2.2.2.2.2.2.2.2.1, ()))))))))))), (y14.2.2.1, (y14.2.2.2.1, ((c69_0, (c69_1, (c69_2, (c69_3, (c69_4, ()))))), ()))))))
  else
  L58_6 Fr n t3 t4 t11 t43 t44 (IntKind.wrap .i64 (t45 + (1 : Int))) y14.2.1.1 y14.2.1.2.1 y14.2.1.2.2.1 y14.2.1.2.2.2.1 y14.2.1.2.2.2.2.1 y14.2.1.2.2.2.2.2.1 y14.2.1.2.2.2.2.2.2.1 y14.2.1.2.2.2.2.2.2.2.2.2.1 y14.2.1.2.2.2.2.2.2.2.2.2.2.1 y14.2.2.1 y14.2.2.2.1 c69_0 c69_1 c69_2 c69_3 c69_4
  else
  Option.bind (Fr (n + 1) x12 false (IntKind.wrap .i64 (t4 + (1 : Int))) c64_0 c64_1 c64_2 c64_3 c64_4 c64_5 c64_6 c64_9 c64_10 m65 m66) fun y15 =>
  bif (y15.1.1 != (0 : Int)) then
  some (.inr ((y15.1.1, ()), ((y15.2.1.1, (y15.2.1.2.1, (y15.2.1.2.2.1, (y15.2.1.2.2.2.1, (y15.2.1.2.2.2.2.1, (y15.2.1.2.2.2.2.2.1, (y15.2.1.2.2.2.2.2.2.1, ((), ((), (y15.2.1.2.2.2.2.2.2.2.2.2.1, (y15.2.1.2.2.2.2.2.2.2.2.2.2.1, ()))))))))))), (y15.2.2.1, (y15.2.2.2.1, ((c69_0, (c69_1, (c69_2, (c69_3, (c69_4, ()))))), ()))))))
  else
  L58_6 Fr n t3 t4 t11 t43 t44 (IntKind.wrap .i64 (t45 + (1 : Int))) y15.2.1.1 y15.2.1.2.1 y15.2.1.2.2.1 y15.2.1.2.2.2.1 y15.2.1.2.2.2.2.1 y15.2.1.2.2.2.2.2.1 y15.2.1.2.2.2.2.2.2.1 y15.2.1.2.2.2.2.2.2.2.2.2.1 y15.2.1.2.2.2.2.2.2.2.2.2.2.1 y15.2.2.1 y15.2.2.2.1 c69_0 c69_1 c69_2 c69_3 c69_4
  else none
 else
 some (.inl (((), (t11, ())), ((c64_0, (c64_1, (c64_2, (c64_3, (c64_4, (c64_5, (c64_6, ((), ((), (c64_9, (c64_10, ()))))))))))), (m65, (m66, ((c69_0, (c69_1, (c69_2, (c69_3, (c69_4, ()))))), ()))))))
noncomputable def L58_6_it (Fr : Nat → Int → Bool → Int → (List (Int × (List UInt8 × (List UInt8 × (List Int × Bool))))) → (List Int) → Int → Int → Int → Bool → Bool → Int → (List (Int × (List UInt8 × (List UInt8 × (List UInt8 × (Int × Bool)))))) → (List (Int × Int)) → (List (Int × List UInt8)) → Option ((Int × Unit) × (((List (Int × (List UInt8 × (List UInt8 × (List Int × Bool))))) × ((List Int) × (Int × (Int × (Int × (Bool × (Bool × (Unit × (Unit × (Int × ((List (Int × (List UInt8 × (List UInt8 × (List UInt8 × (Int × Bool)))))) × Unit))))))))))) × ((List (Int × Int)) × ((List (Int × List UInt8)) × Unit))))) : LoopIt := ⟨58, 6, none, L58_6_T, [(.exit 0, L58_6_Xexit0), (.ret, L58_6_Xret)], 1, fun n x => L58_6 Fr n x.1.2.1 x.1.2.2.1 x.1.2.2.2.2.1 x.1.2.2.2.2.2.1 x.1.2.2.2.2.2.2.1 x.1.2.2.2.2.2.2.2.1 x.2.1.1 x.2.1.2.1 x.2.1.2.2.1 x.2.1.2.2.2.1 x.2.1.2.2.2.2.1 x.2.1.2.2.2.2.2.1 x.2.1.2.2.2.2.2.2.1 x.2.1.2.2.2.2.2.2.2.2.2.1 x.2.1.2.2.2.2.2.2.2.2.2.2.1 x.2.2.1 x.2.2.2.1 x.2.2.2.2.1.1 x.2.2.2.2.1.2.1 x.2.2.2.2.1.2.2.1 x.2.2.2.2.1.2.2.2.1 x.2.2.2.2.1.2.2.2.2.1, [68, 70, 71]⟩
theorem L58_6_Xexit0_ok : L58_6_Xexit0.ok Tryz.prog hint := by
 intro p hp
 simp only [L58_6_Xexit0, List.mem_cons, List.not_mem_nil, or_false] at hp
 rcases hp with rfl | rfl | rfl | rfl
 ·trivial
 ·trivial
 ·trivial
 ·trivial
theorem L58_6_Xret_ok : L58_6_Xret.ok Tryz.prog hint := by
 intro p hp
 simp only [L58_6_Xret, List.mem_cons, List.not_mem_nil, or_false] at hp
 rcases hp with rfl | rfl | rfl | rfl
 ·trivial
 ·trivial
 ·trivial
 ·trivial
theorem L58_6_T_ok : L58_6_T.ok Tryz.prog hint := by
 intro p hp
 simp only [L58_6_T, List.mem_cons, List.not_mem_nil, or_false] at hp
 rcases hp with rfl | rfl | rfl | rfl
 ·trivial
 ·trivial
 ·trivial
 ·trivial
theorem L58_6_ok (Fr : Nat → Int → Bool → Int → (List (Int × (List UInt8 × (List UInt8 × (List Int × Bool))))) → (List Int) → Int → Int → Int → Bool → Bool → Int → (List (Int × (List UInt8 × (List UInt8 × (List UInt8 × (Int × Bool)))))) → (List (Int × Int)) → (List (Int × List UInt8)) → Option ((Int × Unit) × (((List (Int × (List UInt8 × (List UInt8 × (List Int × Bool))))) × ((List Int) × (Int × (Int × (Int × (Bool × (Bool × (Unit × (Unit × (Int × ((List (Int × (List UInt8 × (List UInt8 × (List UInt8 × (Int × Bool)))))) × Unit))))))))))) × ((List (Int × Int)) × ((List (Int × List UInt8)) × Unit))))) (hFr : ∀ m, PFnOK Tryz.prog hint shT (plan_or Fr) m) : ∀ n, LoopOK Tryz.prog hint shT (L58_6_it Fr) n :=
 LoopOK.of (hk := fun β => (Known.mk [] []).hkP [(plan_or Fr)] β) (sh := shT) (OneLoop.of (by kernel_rfl)) L58_6_T_ok ⟨⟨L58_6_Xexit0_ok, Nat.le_refl _, Nat.le_refl _⟩, ⟨L58_6_Xret_ok, Nat.le_refl _, Nat.le_refl _⟩, trivial⟩ (fun m => KnownOK.hookP KnownOK.nil (KnownP.nil.fn hFr (plan_Tok _ _)) m)
  (fun _ => by kernel_rfl) (fun m x => by kernel_rfl)
noncomputable def plan_b (Fr : Nat → Int → Bool → Int → (List (Int × (List UInt8 × (List UInt8 × (List Int × Bool))))) → (List Int) → Int → Int → Int → Bool → Bool → Int → (List (Int × (List UInt8 × (List UInt8 × (List UInt8 × (Int × Bool)))))) → (List (Int × Int)) → (List (Int × List UInt8)) → Option ((Int × Unit) × (((List (Int × (List UInt8 × (List UInt8 × (List Int × Bool))))) × ((List Int) × (Int × (Int × (Int × (Bool × (Bool × (Unit × (Unit × (Int × ((List (Int × (List UInt8 × (List UInt8 × (List UInt8 × (Int × Bool)))))) × Unit))))))))))) × ((List (Int × Int)) × ((List (Int × List UInt8)) × Unit))))) (n : Nat) (i : Int) (key : Bool) (deep : Int) (c64_0 : (List (Int × (List UInt8 × (List UInt8 × (List Int × Bool)))))) (c64_1 : (List Int)) (c64_2 : Int) (c64_3 : Int) (c64_4 : Int) (c64_5 : Bool) (c64_6 : Bool) (c64_9 : Int) (c64_10 : (List (Int × (List UInt8 × (List UInt8 × (List UInt8 × (Int × Bool))))))) (m65 : (List (Int × Int))) (m66 : (List (Int × List UInt8))) : Option ((Int × Unit) × (((List (Int × (List UInt8 × (List UInt8 × (List Int × Bool))))) × ((List Int) × (Int × (Int × (Int × (Bool × (Bool × (Unit × (Unit × (Int × ((List (Int × (List UInt8 × (List UInt8 × (List UInt8 × (Int × Bool)))))) × Unit))))))))))) × ((List (Int × Int)) × ((List (Int × List UInt8)) × Unit)))) :=
 bif (mhas (Sh.int Go.IntKind.i64) m66 i) then
 bif (room (((List.length c64_10) + (List.length (((8 : Int), (([] : List UInt8), (([] : List UInt8), ((mgetD (Sh.int Go.IntKind.i64) m66 i ([] : List UInt8)), ((0 : Int), false))))) :: []))) * 73)) then
 some (((0 : Int), ()), ((c64_0, (c64_1, (c64_2, (c64_3, (c64_4, (c64_5, (c64_6, ((), ((), (c64_9, ((c64_10 ++ (((8 : Int), (([] : List UInt8), (([] : List UInt8), ((mgetD (Sh.int Go.IntKind.i64) m66 i ([] : List UInt8)), ((0 : Int), false))))) :: [])), ()))))))))))), (m65, (m66, ()))))
 else none
 else
 bif (ile (0 : Int) i) then
 Option.bind (c64_0[(Int.toNat i)]?) fun x0 =>
 Option.bind (bif (x0.1 != (1 : Int)) then
  some (deep == (200 : Int))
 else
 some false) fun b2 =>
 bif b2 then
 some (((8 : Int), ()), ((c64_0, (c64_1, (c64_2, (c64_3, (c64_4, (c64_5, (c64_6, ((), ((), (c64_9, (c64_10, ()))))))))))), (m65, (m66, ()))))
 else
 bif (ilt (20000 : Int) (IntKind.wrap .i64 (c64_9 + (1 : Int)))) then
 some (((9 : Int), ()), ((c64_0, (c64_1, (c64_2, (c64_3, (c64_4, (c64_5, (c64_6, ((), ((), ((IntKind.wrap .i64 (c64_9 + (1 : Int))), (c64_10, ()))))))))))), (m65, (m66, ()))))
 else
 bif (ilt (mgetD (Sh.int Go.IntKind.i64) m65 i (0 : Int)) (2 : Int)) then
 bif (x0.1 != (1 : Int)) then
  bif (x0.1 == (3 : Int)) then
  Option.bind (elided (n + 2) x0.1 x0.2.1) fun y3 =>
  bif c64_5 then
   bif (room (((List.length c64_10) + (List.length (((5 : Int), (([] : List UInt8), (y3.1, (([] : List UInt8), ((0 : Int), true))))) :: []))) * 73)) then
   Option.bind (L58_6 Fr (n + 3) key deep (5 : Int) x0.2.2.2.1 (len x0.2.2.2.1) (0 : Int) c64_0 c64_1 c64_2 c64_3 c64_4 c64_5 c64_6 (IntKind.wrap .i64 (c64_9 + (1 : Int))) (c64_10 ++ (((5 : Int), (([] : List UInt8), (y3.1, (([] : List UInt8), ((0 : Int), true))))) :: [])) m65 m66 x0.1 x0.2.1 x0.2.2.1 x0.2.2.2.1 x0.2.2.2.2) fun y16 =>
   match y16 with
   | .inl y17 =>
    bif (room (((List.length y17.2.1.2.2.2.2.2.2.2.2.2.2.1) + (List.length (((IntKind.wrap .i64 (y17.1.2.1 + (1 : Int))), (([] : List UInt8), (([] : List UInt8), (([] : List UInt8), ((0 : Int), false))))) :: []))) * 73)) then
    some (((0 : Int), ()), ((y17.2.1.1, (y17.2.1.2.1, (y17.2.1.2.2.1, (y17.2.1.2.2.2.1, (y17.2.1.2.2.2.2.1, (y17.2.1.2.2.2.2.2.1, (y17.2.1.2.2.2.2.2.2.1, ((), ((), (y17.2.1.2.2.2.2.2.2.2.2.2.1, ((y17.2.1.2.2.2.2.2.2.2.2.2.2.1 ++ (((IntKind.wrap .i64 (y17.1.2.1 + (1 : Int))), (([] : List UInt8), (([] : List UInt8), (([] : List UInt8), ((0 : Int), false))))) :: [])), ()))))))))))), (y17.2.2.1, (y17.2.2.2.1, ()))))
    else none
   | .inr y18 =>
    some ((y18.1.1, ()), ((y18.2.1.1, (y18.2.1.2.1, (y18.2.1.2.2.1, (y18.2.1.2.2.2.1, (y18.2.1.2.2.2.2.1, (y18.2.1.2.2.2.2.2.1, (y18.2.1.2.2.2.2.2.2.1, ((), ((), (y18.2.1.2.2.2.2.2.2.2.2.2.1, (y18.2.1.2.2.2.2.2.2.2.2.2.2.1, ()))))))))))), (y18.2.2.1, (y18.2.2.2.1, ()))))
   else none
  else
  bif key then
   bif (room (((List.length c64_10) + (List.length (((5 : Int), (([] : List UInt8), (y3.1, (([] : List UInt8), ((0 : Int), true))))) :: []))) * 73)) then
   Option.bind (L58_6 Fr (n + 3) key deep (5 : Int) x0.2.2.2.1 (len x0.2.2.2.1) (0 : Int) c64_0 c64_1 c64_2 c64_3 c64_4 c64_5 c64_6 (IntKind.wrap .i64 (c64_9 + (1 : Int))) (c64_10 ++ (((5 : Int), (([] : List UInt8), (y3.1, (([] : List UInt8), ((0 : Int), true))))) :: [])) m65 m66 x0.1 x0.2.1 x0.2.2.1 x0.2.2.2.1 x0.2.2.2.2) fun y19 =>
   match y19 with
   | .inl y20 =>
    bif (room (((List.length y20.2.1.2.2.2.2.2.2.2.2.2.2.1) + (List.length (((IntKind.wrap .i64 (y20.1.2.1 + (1 : Int))), (([] : List UInt8), (([] : List UInt8), (([] : List UInt8), ((0 : Int), false))))) :: []))) * 73)) then
    some (((0 : Int), ()), ((y20.2.1.1, (y20.2.1.2.1, (y20.2.1.2.2.1, (y20.2.1.2.2.2.1, (y20.2.1.2.2.2.2.1, (y20.2.1.2.2.2.2.2.1, (y20.2.1.2.2.2.2.2.2.1, ((), ((), (y20.2.1.2.2.2.2.2.2.2.2.2.1, ((y20.2.1.2.2.2.2.2.2.2.2.2.2.1 ++ (((IntKind.wrap .i64 (y20.1.2.1 + (1 : Int))), (([] : List UInt8), (([] : List UInt8), (([] : List UInt8), ((0 : Int), false))))) :: [])), ()))))))))))), (y20.2.2.1, (y20.2.2.2.1, ()))))
    else none
   | .inr y21 =>
    some ((y21.1.1, ()), ((y21.2.1.1, (y21.2.1.2.1, (y21.2.1.2.2.1, (y21.2.1.2.2.2.1, (y21.2.1.2.2.2.2.1, (y21.2.1.2.2.2.2.2.1, (y21.2.1.2.2.2.2.2.2.1, ((), ((), (y21.2.1.2.2.2.2.2.2.2.2.2.1, (y21.2.1.2.2.2.2.2.2.2.2.2.2.1, ()))))))))))), (y21.2.2.1, (y21.2.2.2.1, ()))))
   else none
  else
  bif (room (((List.length c64_10) + (List.length (((5 : Int), (([] : List UInt8), (y3.1, (([] : List UInt8), ((0 : Int), ((len x0.2.2.2.1) == (0 : Int))))))) :: []))) * 73)) then
  Option.bind (L58_6 Fr (n + 3) key deep (5 : Int) x0.2.2.2.1 (len x0.2.2.2.1) (0 : Int) c64_0 c64_1 c64_2 c64_3 c64_4 c64_5 c64_6 (IntKind.wrap .i64 (c64_9 + (1 : Int))) (c64_10 ++ (((5 : Int), (([] : List UInt8), (y3.1, (([] : List UInt8), ((0 : Int), ((len x0.2.2.2.1) == (0 : Int))))))) :: [])) m65 m66 x0.1 x0.2.1 x0.2.2.1 x0.2.2.2.1 x0.2.2.2.2) fun y22 =>
  match y22 with
   | .inl y23 =>
   bif (room (((List.length y23.2.1.2.2.2.2.2.2.2.2.2.2.1) + (List.length (((IntKind.wrap .i64 (y23.1.2.1 + (1 : Int))), (([] : List UInt8), (([] : List UInt8), (([] : List UInt8), ((0 : Int), false))))) :: []))) * 73)) then
   some (((0 : Int), ()), ((y23.2.1.1, (y23.2.1.2.1, (y23.2.1.2.2.1, (y23.2.1.2.2.2.1, (y23.2.1.2.2.2.2.1, (y23.2.1.2.2.2.2.2.1, (y23.2.1.2.2.2.2.2.2.1, ((), ((), (y23.2.1.2.2.2.2.2.2.2.2.2.1, ((y23.2.1.2.2.2.2.2.2.2.2.2.2.1 ++ (((IntKind.wrap .i64 (y23.1.2.1 + (1 : Int))), (([] : List UInt8), (([] : List UInt8), (([] : List UInt8), ((0 : Int), false))))) :: [])), ()))))))))))), (y23.2.2.1, (y23.2.2.2.1, ()))))
   else none
   | .inr y24 =>
   some ((y24.1.1, ()), ((y24.2.1.1, (y24.2.1.2.1, (y24.2.1.2.2.1, (y24.2.1.2.2.2.1, (y24.2.1.2.2.2.2.1, (y24.2.1.2.2.2.2.2.1, (y24.2.1.2.2.2.2.2.2.1, ((), ((), (y24.2.1.2.2.2.2.2.2.2.2.2.1, (y24.2.1.2.2.2.2.2.2.2.2.2.2.1, ()))))))))))), (y24.2.2.1, (y24.2.2.2.1, ()))))
  else none
  else
  Option.bind (elided (n + 2) x0.1 x0.2.1) fun y25 =>
  bif c64_5 then
  bif (room (((List.length c64_10) + (List.length (((3 : Int), (([] : List UInt8), (y25.1, (([] : List UInt8), ((0 : Int), true))))) :: []))) * 73)) then
  Option.bind (L58_6 Fr (n + 3) key deep (3 : Int) x0.2.2.2.1 (len x0.2.2.2.1) (0 : Int) c64_0 c64_1 c64_2 c64_3 c64_4 c64_5 c64_6 (IntKind.wrap .i64 (c64_9 + (1 : Int))) (c64_10 ++ (((3 : Int), (([] : List UInt8), (y25.1, (([] : List UInt8), ((0 : Int), true))))) :: [])) m65 m66 x0.1 x0.2.1 x0.2.2.1 x0.2.2.2.1 x0.2.2.2.2) fun y26 =>
  match y26 with
   | .inl y27 =>
   bif (room (((List.length y27.2.1.2.2.2.2.2.2.2.2.2.2.1) + (List.length (((IntKind.wrap .i64 (y27.1.2.1 + (1 : Int))), (([] : List UInt8), (([] : List UInt8), (([] : List UInt8), ((0 : Int), false))))) :: []))) * 73)) then
   some (((0 : Int), ()), ((y27.2.1.1, (y27.2.1.2.1, (y27.2.1.2.2.1, (y27.2.1.2.2.2.1, (y27.2.1.2.2.2.2.1, (y27.2.1.2.2.2.2.2.1, (y27.2.1.2.2.2.2.2.2.1, ((), ((), (y27.2.1.2.2.2.2.2.2.2.2.2.1, ((y27.2.1.2.2.2.2.2.2.2.2.2.2.1 ++ (((IntKind.wrap .i64 (y27.1.2.1 + (1 : Int))), (([] : List UInt8), (([] : List UInt8), (([] : List UInt8), ((0 : Int), false))))) :: [])), ()))))))))))), (y27.2.2.1, (y27.2.2.2.1, ()))))
   else none
   | .inr y28 =>
   some ((y28.1.1, ()), ((y28.2.1.1, (y28.2.1.2.1, (y28.2.1.2.2.1, (y28.2.1.2.2.2.1, (y28.2.1.2.2.2.2.1, (y28.2.1.2.2.2.2.2.1, (y28.2.1.2.2.2.2.2.2.1, ((), ((), (y28.2.1.2.2.2.2.2.2.2.2.2.1, (y28.2.1.2.2.2.2.2.2.2.2.2.2.1, ()))))))))))), (y28.2.2.1, (y28.2.2.2.1, ()))))
  else none
  else
  bif key then
  bif (room (((List.length c64_10) + (List.length (((3 : Int), (([] : List UInt8), (y25.1, (([] : List UInt8), ((0 : Int), true))))) :: []))) * 73)) then
  Option.bind (L58_6 Fr (n + 3) key deep (3 : Int) x0.2.2.2.1 (len x0.2.2.2.1) (0 : Int) c64_0 c64_1 c64_2 c64_3 c64_4 c64_5 c64_6 (IntKind.wrap .i64 (c64_9 + (1 : Int))) (c64_10 ++ (((3 : Int), (([] : List UInt8), (y25.1, (([] : List UInt8), ((0 : Int), true))))) :: [])) m65 m66 x0.1 x0.2.1 x0.2.2.1 x0.2.2.2.1 x0.2.2.2.2) fun y29 =>
  match y29 with
   | .inl y30 =>
   bif (room (((List.length y30.2.1.2.2.2.2.2.2.2.2.2.2.1) + (List.length (((IntKind.wrap .i64 (y30.1.2.1 + (1 : Int))), (([] : List UInt8), (([] : List UInt8), (([] : List UInt8), ((0 : Int), false))))) :: []))) * 73)) then
   some (((0 : Int), ()), ((y30.2.1.1, (y30.2.1.2.1, (y30.2.1.2.2.1, (y30.2.1.2.2.2.1, (y30.2.1.2.2.2.2.1, (y30.2.1.2.2.2.2.2.1, (y30.2.1.2.2.2.2.2.2.1, ((), ((), (y30.2.1.2.2.2.2.2.2.2.2.2.1, ((y30.2.1.2.2.2.2.2.2.2.2.2.2.1 ++ (((IntKind.wrap .i64 (y30.1.2.1 + (1 : Int))), (([] : List UInt8), (([] : List UInt8), (([] : List UInt8), ((0 : Int), false))))) :: [])), ()))))))))))), (y30.2.2.1, (y30.2.2.2.1, ()))))
   else none
   | .inr y31 =>
   some ((y31.1.1, ()), ((y31.2.1.1, (y31.2.1.2.1, (y31.2.1.2.2.1, (y31.2.1.2.2.2.1, (y31.2.1.2.2.2.2.1, (y31.2.1.2.2.2.2.2.1, (y31.2.1.2.2.2.2.2.2.1, ((), ((), (y31.2.1.2.2.2.2.2.2.2.2.2.1, (y31.2.1.2.2.2.2.2.2.2.2.2.2.1, ()))))))))))), (y31.2.2.1, (y31.2.2.2.1, ()))))
  else none
  else
  bif (room (((List.length c64_10) + (List.length (((3 : Int), (([] : List UInt8), (y25.1, (([] : List UInt8), ((0 : Int), ((len x0.2.2.2.1) == (0 : Int))))))) :: []))) * 73)) then
  Option.bind (L58_6 Fr (n + 3) key deep (3 : Int) x0.2.2.2.1 (len x0.2.2.2.1) (0 : Int) c64_0 c64_1 c64_2 c64_3 c64_4 c64_5 c64_6 (IntKind.wrap .i64 (c64_9 + (1 : Int))) (c64_10 ++ (((3 : Int), (([] : List UInt8), (y25.1, (([] : List UInt8), ((0 : Int), ((len x0.2.2.2.1) == (0 : Int))))))) :: [])) m65 m66 x0.1 x0.2.1 x0.2.2.1 x0.2.2.2.1 x0.2.2.2.2) fun y32 =>
  match y32 with
  | .inl y33 =>
   bif (room (((List.length y33.2.1.2.2.2.2.2.2.2.2.2.2.1) + (List.length (((IntKind.wrap .i64 (y33.1.2.1 + (1 : Int))), (([] : List UInt8), (([] : List UInt8), (([] : List UInt8), ((0 : Int), false))))) :: []))) * 73)) then
   some (((0 : Int), ()), ((y33.2.1.1, (y33.2.1.2.1, (y33.2.1.2.2.1, (y33.2.1.2.2.2.1, (y33.2.1.2.2.2.2.1, (y33.2.1.2.2.2.2.2.1, (y33.2.1.2.2.2.2.2.2.1, ((), ((), (y33.2.1.2.2.2.2.2.2.2.2.2.1, ((y33.2.1.2.2.2.2.2.2.2.2.2.2.1 ++ (((IntKind.wrap .i64 (y33.1.2.1 + (1 : Int))), (([] : List UInt8), (([] : List UInt8), (([] : List UInt8), ((0 : Int), false))))) :: [])), ()))))))))))), (y33.2.2.1, (y33.2.2.2.1, ()))))
   else none
  | .inr y34 =>
   some ((y34.1.1, ()), ((y34.2.1.1, (y34.2.1.2.1, (y34.2.1.2.2.1, (y34.2.1.2.2.2.1, (y34.2.1.2.2.2.2.1, (y34.2.1.2.2.2.2.2.1, (y34.2.1.2.2.2.2.2.2.1, ((), ((), (y34.2.1.2.2.2.2.2.2.2.2.2.1, (y34.2.1.2.2.2.2.2.2.2.2.2.2.1, ()))))))))))), (y34.2.2.1, (y34.2.2.2.1, ()))))
  else none
 else
 bif c64_5 then
  Option.bind (may n c64_4 x0.2.2.1 true) fun y35 =>
  bif (!y35.1) then
  Option.bind (elided (n + 2) x0.1 x0.2.1) fun y36 =>
  bif (room (((List.length c64_10) + (List.length (((7 : Int), (x0.2.2.1, (y36.1, (([] : List UInt8), ((3 : Int), false))))) :: []))) * 73)) then
  some (((0 : Int), ()), ((c64_0, (c64_1, (c64_2, (c64_3, (c64_4, (c64_5, (c64_6, ((), ((), ((IntKind.wrap .i64 (c64_9 + (1 : Int))), ((c64_10 ++ (((7 : Int), (x0.2.2.1, (y36.1, (([] : List UInt8), ((3 : Int), false))))) :: [])), ()))))))))))), (m65, (m66, ()))))
  else none
  else
  Option.bind (elided (n + 2) x0.1 x0.2.1) fun y37 =>
  bif (c64_4 != (1 : Int)) then
  bif (room (((List.length c64_10) + (List.length (((7 : Int), (x0.2.2.1, (y37.1, (([] : List UInt8), (c64_4, false))))) :: []))) * 73)) then
  some (((0 : Int), ()), ((c64_0, (c64_1, (c64_2, (c64_3, (c64_4, (c64_5, (c64_6, ((), ((), ((IntKind.wrap .i64 (c64_9 + (1 : Int))), ((c64_10 ++ (((7 : Int), (x0.2.2.1, (y37.1, (([] : List UInt8), (c64_4, false))))) :: [])), ()))))))))))), (m65, (m66, ()))))
  else none
  else
  none
 else
 Option.bind (may n c64_4 x0.2.2.1 key) fun y38 =>
 bif (!y38.1) then
  Option.bind (elided (n + 2) x0.1 x0.2.1) fun y39 =>
  bif (room (((List.length c64_10) + (List.length (((7 : Int), (x0.2.2.1, (y39.1, (([] : List UInt8), ((3 : Int), false))))) :: []))) * 73)) then
  some (((0 : Int), ()), ((c64_0, (c64_1, (c64_2, (c64_3, (c64_4, (c64_5, (c64_6, ((), ((), ((IntKind.wrap .i64 (c64_9 + (1 : Int))), ((c64_10 ++ (((7 : Int), (x0.2.2.1, (y39.1, (([] : List UInt8), ((3 : Int), false))))) :: [])), ()))))))))))), (m65, (m66, ()))))
  else none
 else
 Option.bind (elided (n + 2) x0.1 x0.2.1) fun y40 =>
 bif (c64_4 != (1 : Int)) then
  bif (room (((List.length c64_10) + (List.length (((7 : Int), (x0.2.2.1, (y40.1, (([] : List UInt8), (c64_4, false))))) :: []))) * 73)) then
  some (((0 : Int), ()), ((c64_0, (c64_1, (c64_2, (c64_3, (c64_4, (c64_5, (c64_6, ((), ((), ((IntKind.wrap .i64 (c64_9 + (1 : Int))), ((c64_10 ++ (((7 : Int), (x0.2.2.1, (y40.1, (([] : List UInt8), (c64_4, false))))) :: [])), ()))))))))))), (m65, (m66, ()))))
  else none
 else
 none
 else
 none
 else none
noncomputable def plan_bit (Fr : Nat → Int → Bool → Int → (List (Int × (List UInt8 × (List UInt8 × (List Int × Bool))))) → (List Int) → Int → Int → Int → Bool → Bool → Int → (List (Int × (List UInt8 × (List UInt8 × (List UInt8 × (Int × Bool)))))) → (List (Int × Int)) → (List (Int × List UInt8)) → Option ((Int × Unit) × (((List (Int × (List UInt8 × (List UInt8 × (List Int × Bool))))) × ((List Int) × (Int × (Int × (Int × (Bool × (Bool × (Unit × (Unit × (Int × ((List (Int × (List UInt8 × (List UInt8 × (List UInt8 × (Int × Bool)))))) × Unit))))))))))) × ((List (Int × Int)) × ((List (Int × List UInt8)) × Unit))))) : PFn := plan_it0 5 (fun n x => plan_b Fr n x.1.1 x.1.2.1 x.1.2.2.1 x.2.1.1 x.2.1.2.1 x.2.1.2.2.1 x.2.1.2.2.2.1 x.2.1.2.2.2.2.1 x.2.1.2.2.2.2.2.1 x.2.1.2.2.2.2.2.2.1 x.2.1.2.2.2.2.2.2.2.2.2.1 x.2.1.2.2.2.2.2.2.2.2.2.2.1 x.2.2.1 x.2.2.2.1)
theorem plan_bok (Fr : Nat → Int → Bool → Int → (List (Int × (List UInt8 × (List UInt8 × (List Int × Bool))))) → (List Int) → Int → Int → Int → Bool → Bool → Int → (List (Int × (List UInt8 × (List UInt8 × (List UInt8 × (Int × Bool)))))) → (List (Int × Int)) → (List (Int × List UInt8)) → Option ((Int × Unit) × (((List (Int × (List UInt8 × (List UInt8 × (List Int × Bool))))) × ((List Int) × (Int × (Int × (Int × (Bool × (Bool × (Unit × (Unit × (Int × ((List (Int × (List UInt8 × (List UInt8 × (List UInt8 × (Int × Bool)))))) × Unit))))))))))) × ((List (Int × Int)) × ((List (Int × List UInt8)) × Unit))))) (hFr : ∀ m, PFnOK Tryz.prog hint shT (plan_or Fr) m) (n : Nat) : PFnOK Tryz.prog hint shT (plan_bit Fr) n :=
 PFnOK.of (hk := fun β => (Known.mk [may_it, elided_it] [(L58_6_it Fr)]).hk β) (sh := shT) (plan_T2ok _ _) (fun m _ => KnownOK.hook (((KnownOK.nil.fn elided_ok).loop (L58_6_ok Fr hFr) L58_6_T_ok).fn may_ok) m) (fun x s => by kernel_rfl)
noncomputable def plan_d : Nat → Nat → Int → Bool → Int → (List (Int × (List UInt8 × (List UInt8 × (List Int × Bool))))) → (List Int) → Int → Int → Int → Bool → Bool → Int → (List (Int × (List UInt8 × (List UInt8 × (List UInt8 × (Int × Bool)))))) → (List (Int × Int)) → (List (Int × List UInt8)) → Option ((Int × Unit) × (((List (Int × (List UInt8 × (List UInt8 × (List Int × Bool))))) × ((List Int) × (Int × (Int × (Int × (Bool × (Bool × (Unit × (Unit × (Int × ((List (Int × (List UInt8 × (List UInt8 × (List UInt8 × (Int × Bool)))))) × Unit))))))))))) × ((List (Int × Int)) × ((List (Int × List UInt8)) × Unit))))
 | 0, _, _, _, _, _, _, _, _, _, _, _, _, _, _, _ => none
 | d + 1, n, i, key, deep, c64_0, c64_1, c64_2, c64_3, c64_4, c64_5, c64_6, c64_9, c64_10, m65, m66 => bif Nat.ble 5 n then plan_b (plan_d d) (n - 5) i key deep c64_0 c64_1 c64_2 c64_3 c64_4 c64_5 c64_6 c64_9 c64_10 m65 m66 else none
noncomputable def plan (n : Nat) (i : Int) (key : Bool) (deep : Int) (c64_0 : (List (Int × (List UInt8 × (List UInt8 × (List Int × Bool)))))) (c64_1 : (List Int)) (c64_2 : Int) (c64_3 : Int) (c64_4 : Int) (c64_5 : Bool) (c64_6 : Bool) (c64_9 : Int) (c64_10 : (List (Int × (List UInt8 × (List UInt8 × (List UInt8 × (Int × Bool))))))) (m65 : (List (Int × Int))) (m66 : (List (Int × List UInt8))) : Option ((Int × Unit) × (((List (Int × (List UInt8 × (List UInt8 × (List Int × Bool))))) × ((List Int) × (Int × (Int × (Int × (Bool × (Bool × (Unit × (Unit × (Int × ((List (Int × (List UInt8 × (List UInt8 × (List UInt8 × (Int × Bool)))))) × Unit))))))))))) × ((List (Int × Int)) × ((List (Int × List UInt8)) × Unit)))) := plan_d n n i key deep c64_0 c64_1 c64_2 c64_3 c64_4 c64_5 c64_6 c64_9 c64_10 m65 m66
noncomputable def plan_it : PFn := plan_it0 0 (fun n x => plan n x.1.1 x.1.2.1 x.1.2.2.1 x.2.1.1 x.2.1.2.1 x.2.1.2.2.1 x.2.1.2.2.2.1 x.2.1.2.2.2.2.1 x.2.1.2.2.2.2.2.1 x.2.1.2.2.2.2.2.2.1 x.2.1.2.2.2.2.2.2.2.2.2.1 x.2.1.2.2.2.2.2.2.2.2.2.2.1 x.2.2.1 x.2.2.2.1)
theorem plan_ok (n : Nat) : PFnOK Tryz.prog hint shT plan_it n :=
 PFnOK.diag (it := plan_it0 0 fun _ _ => none) (fun d n x => plan_d d n x.1.1 x.1.2.1 x.1.2.2.1 x.2.1.1 x.2.1.2.1 x.2.1.2.2.1 x.2.1.2.2.2.1 x.2.1.2.2.2.2.1 x.2.1.2.2.2.2.2.1 x.2.1.2.2.2.2.2.2.1 x.2.1.2.2.2.2.2.2.2.2.2.1 x.2.1.2.2.2.2.2.2.2.2.2.2.1 x.2.2.1 x.2.2.2.1) (PFnOK.byDepth (it := plan_it0 0 fun _ _ => none) (D := 5) (fun G n x => plan_b (fun n i key deep c64_0 c64_1 c64_2 c64_3 c64_4 c64_5 c64_6 c64_9 c64_10 m65 m66 => G n ((i, (key, (deep, ()))), ((c64_0, (c64_1, (c64_2, (c64_3, (c64_4, (c64_5, (c64_6, ((), ((), (c64_9, (c64_10, ()))))))))))), (m65, (m66, ()))))) n x.1.1 x.1.2.1 x.1.2.2.1 x.2.1.1 x.2.1.2.1 x.2.1.2.2.1 x.2.1.2.2.2.1 x.2.1.2.2.2.2.1 x.2.1.2.2.2.2.2.1 x.2.1.2.2.2.2.2.2.1 x.2.1.2.2.2.2.2.2.2.2.2.1 x.2.1.2.2.2.2.2.2.2.2.2.2.1 x.2.2.1 x.2.2.2.1) _ (fun _ _ => rfl) (fun _ _ _ => rfl) (fun G h n => plan_bok (fun n i key deep c64_0 c64_1 c64_2 c64_3 c64_4 c64_5 c64_6 c64_9 c64_10 m65 m66 => G n ((i, (key, (deep, ()))), ((c64_0, (c64_1, (c64_2, (c64_3, (c64_4, (c64_5, (c64_6, ((), ((), (c64_9, (c64_10, ()))))))))))), (m65, (m66, ()))))) h n)) n
end Go.Proofs.YteknbnkjelmfaaaGreatDoor
/- Plain functions for the program's. -/
namespace Go.Proofs.YteknbnkjelmfaaaGreatDoor
open Go Go.Iv Go.Gv
set_option maxRecDepth 100000
set_option linter.unusedVariables false
noncomputable def L56_6_78_Xexit2 : Tm := ⟨[(0, .one (.fix (TV.yld 73))), (2, .one (.fix (TV.ptr 71 0))), (4, .one (.fix (TV.mp 74))), (5, .one (.all 78 3 (.int .i64) .no))], [(66, .cells 53 [.lst (.cons (.int .i64) (.cons .str (.cons .str (.cons (.slc (.int .i64)) .bool)))), .lst (.int .i64), .int .i64, .int .i64, .int .i64, .bool, .bool, .fix (TV.mp 69), .fix (TV.mp 70), .int .i64, .all 79 45 (.cons (.int .i64) (.cons .str (.cons .str (.cons .str (.cons (.int .i64) .bool))))) .any] true), (68, .cells 49 [.fix (TV.ptr 66 0)] true), (69, .map 3 false false (.int .i64) (.int .i64) false), (70, .map 3 false false (.int .i64) .str false), (71, .cells 25 [.lst (.cons (.int .i64) (.cons .str (.cons .str (.cons (.slc (.int .i64)) .bool)))), .lst (.int .i64)] true), (73, .loop 18 Go.LoopState.ready (Option.none) (fiIn Tryz.prog hint 18) [(3, .one (.fix (TV.ptr 68 0)))] (rangeIn Tryz.prog 18 4).1 (rangeIn Tryz.prog 18 4).2.1 (rangeIn Tryz.prog 18 4).2.2), (74, .map 3 false false (.int .i64) .bool false)], 78, 80, 3017⟩
noncomputable def L56_6_78_T : Tm := ⟨[(0, .one (.fix (TV.yld 73))), (2, .one (.fix (TV.ptr 71 0))), (4, .one (.fix (TV.mp 74))), (5, .one (.all 78 3 (.int .i64) .no)), (33, .one (.lst (.int .i64))), (34, .one (.int .i64)), (35, .one (.int .i64))], [(66, .cells 53 [.lst (.cons (.int .i64) (.cons .str (.cons .str (.cons (.slc (.int .i64)) .bool)))), .lst (.int .i64), .int .i64, .int .i64, .int .i64, .bool, .bool, .fix (TV.mp 69), .fix (TV.mp 70), .int .i64, .all 79 45 (.cons (.int .i64) (.cons .str (.cons .str (.cons .str (.cons (.int .i64) .bool))))) .any] true), (68, .cells 49 [.fix (TV.ptr 66 0)] true), (69, .map 3 false false (.int .i64) (.int .i64) false), (70, .map 3 false false (.int .i64) .str false), (71, .cells 25 [.lst (.cons (.int .i64) (.cons .str (.cons .str (.cons (.slc (.int .i64)) .bool)))), .lst (.int .i64)] true), (73, .loop 18 Go.LoopState.ready (Option.none) (fiIn Tryz.prog hint 18) [(3, .one (.fix (TV.ptr 68 0)))] (rangeIn Tryz.prog 18 4).1 (rangeIn Tryz.prog 18 4).2.1 (rangeIn Tryz.prog 18 4).2.2), (74, .map 3 false false (.int .i64) .bool false)], 78, 80, 3017⟩
noncomputable def L56_6_78 : Nat → (List Int) → (List Int) → Int → Int → (List (Int × (List UInt8 × (List UInt8 × (List Int × Bool))))) → (List Int) → Int → Int → Int → Bool → Bool → Int → (List (Int × (List UInt8 × (List UInt8 × (List UInt8 × (Int × Bool)))))) → (List (Int × Int)) → (List (Int × List UInt8)) → (List (Int × (List UInt8 × (List UInt8 × (List Int × Bool))))) → (List Int) → (List (Int × Bool)) → Option ((Unit × (Unit × (Unit × ((List Int) × Unit)))) × (((List (Int × (List UInt8 × (List UInt8 × (List Int × Bool))))) × ((List Int) × (Int × (Int × (Int × (Bool × (Bool × (Unit × (Unit × (Int × ((List (Int × (List UInt8 × (List UInt8 × (List UInt8 × (Int × Bool)))))) × Unit))))))))))) × ((Unit × Unit) × ((List (Int × Int)) × ((List (Int × List UInt8)) × (((List (Int × (List UInt8 × (List UInt8 × (List Int × Bool))))) × ((List Int) × Unit)) × ((Unit × Unit) × ((List (Int × Bool)) × Unit))))))))
 | 0, _, _, _, _, _, _, _, _, _, _, _, _, _, _, _, _, _, _ => none
 | n + 1, t5, t33, t34, t35, c66_0, c66_1, c66_2, c66_3, c66_4, c66_5, c66_6, c66_9, c66_10, m69, m70, c71_0, c71_1, m74 =>
 bif (ilt t35 t34) then
  bif (ile (0 : Int) t35) then
  Option.bind (t33[(Int.toNat t35)]?) fun x23 =>
  bif (!(mgetD (Sh.int Go.IntKind.i64) m74 x23 false)) then
  bif (room (((List.length t5) + (List.length (x23 :: ([] : List Int)))) * 9)) then
  L56_6_78 n (t5 ++ (x23 :: ([] : List Int))) t33 t34 (IntKind.wrap .i64 (t35 + (1 : Int))) c66_0 c66_1 c66_2 c66_3 c66_4 c66_5 c66_6 c66_9 c66_10 (mput (Sh.int Go.IntKind.i64) m69 x23 (IntKind.wrap .i64 ((mgetD (Sh.int Go.IntKind.i64) m69 x23 (0 : Int)) + (1 : Int)))) m70 c71_0 c71_1 (mput (Sh.int Go.IntKind.i64) m74 x23 true)
  else none
  else
  L56_6_78 n t5 t33 t34 (IntKind.wrap .i64 (t35 + (1 : Int))) c66_0 c66_1 c66_2 c66_3 c66_4 c66_5 c66_6 c66_9 c66_10 (mput (Sh.int Go.IntKind.i64) m69 x23 (IntKind.wrap .i64 ((mgetD (Sh.int Go.IntKind.i64) m69 x23 (0 : Int)) + (1 : Int)))) m70 c71_0 c71_1 m74
  else none
 else
 some (((), ((), ((), (t5, ())))), ((c66_0, (c66_1, (c66_2, (c66_3, (c66_4, (c66_5, (c66_6, ((), ((), (c66_9, (c66_10, ()))))))))))), (((), ()), (m69, (m70, ((c71_0, (c71_1, ())), (((), ()), (m74, ()))))))))
noncomputable def L56_6_78_it : LoopIt := ⟨56, 6, none, L56_6_78_T, [(.exit 2, L56_6_78_Xexit2)], 1, fun n x => L56_6_78 n x.1.2.2.2.1 x.1.2.2.2.2.1 x.1.2.2.2.2.2.1 x.1.2.2.2.2.2.2.1 x.2.1.1 x.2.1.2.1 x.2.1.2.2.1 x.2.1.2.2.2.1 x.2.1.2.2.2.2.1 x.2.1.2.2.2.2.2.1 x.2.1.2.2.2.2.2.2.1 x.2.1.2.2.2.2.2.2.2.2.2.1 x.2.1.2.2.2.2.2.2.2.2.2.2.1 x.2.2.2.1 x.2.2.2.2.1 x.2.2.2.2.2.1.1 x.2.2.2.2.2.1.2.1 x.2.2.2.2.2.2.2.1, []⟩
theorem L56_6_78_Xexit2_ok : L56_6_78_Xexit2.ok Tryz.prog hint := by
 intro p hp
 simp only [L56_6_78_Xexit2, List.mem_cons, List.not_mem_nil, or_false] at hp
 rcases hp with rfl | rfl | rfl | rfl | rfl | rfl | rfl
 ·trivial
 ·trivial
 ·trivial
 ·trivial
 ·trivial
 ·exact Uniq.of (by kernel_rfl) (by kernel_rfl)
 ·trivial
theorem L56_6_78_T_ok : L56_6_78_T.ok Tryz.prog hint := by
 intro p hp
 simp only [L56_6_78_T, List.mem_cons, List.not_mem_nil, or_false] at hp
 rcases hp with rfl | rfl | rfl | rfl | rfl | rfl | rfl
 ·trivial
 ·trivial
 ·trivial
 ·trivial
 ·trivial
 ·exact Uniq.of (by kernel_rfl) (by kernel_rfl)
 ·trivial
theorem L56_6_78_ok : ∀ n, LoopOK Tryz.prog hint shT L56_6_78_it n :=
 LoopOK.of (hk := fun β => (Known.mk [] []).hk β) (sh := shT) (OneLoop.of (by kernel_rfl)) L56_6_78_T_ok ⟨⟨L56_6_78_Xexit2_ok, Nat.le_refl _, Nat.le_refl _⟩, trivial⟩ (fun m => KnownOK.hook KnownOK.nil m)
  (fun _ => by kernel_rfl) (fun m x => by kernel_rfl)
noncomputable def L56_2_76_Xexit0 : Tm := ⟨[], [(66, .cells 53 [.lst (.cons (.int .i64) (.cons .str (.cons .str (.cons (.slc (.int .i64)) .bool)))), .lst (.int .i64), .int .i64, .int .i64, .int .i64, .bool, .bool, .fix (TV.mp 69), .fix (TV.mp 70), .int .i64, .all 76 45 (.cons (.int .i64) (.cons .str (.cons .str (.cons .str (.cons (.int .i64) .bool))))) .any] true), (68, .cells 49 [.fix (TV.ptr 66 0)] true), (69, .map 3 false false (.int .i64) (.int .i64) false), (70, .map 3 false false (.int .i64) .str false), (71, .cells 25 [.lst (.cons (.int .i64) (.cons .str (.cons .str (.cons (.slc (.int .i64)) .bool)))), .lst (.int .i64)] true), (73, .loop 18 Go.LoopState.ready (Option.none) (fiIn Tryz.prog hint 18) [(3, .one (.fix (TV.ptr 68 0)))] (rangeIn Tryz.prog 18 4).1 (rangeIn Tryz.prog 18 4).2.1 (rangeIn Tryz.prog 18 4).2.2), (74, .map 3 false false (.int .i64) .bool false)], 76, 77, 2016⟩
noncomputable def L56_2_76_T : Tm := ⟨[(0, .one (.fix (TV.yld 73))), (2, .one (.fix (TV.ptr 71 0))), (4, .one (.fix (TV.mp 74))), (5, .one (.all 76 3 (.int .i64) .no))], [(66, .cells 53 [.lst (.cons (.int .i64) (.cons .str (.cons .str (.cons (.slc (.int .i64)) .bool)))), .lst (.int .i64), .int .i64, .int .i64, .int .i64, .bool, .bool, .fix (TV.mp 69), .fix (TV.mp 70), .int .i64, .all 77 45 (.cons (.int .i64) (.cons .str (.cons .str (.cons .str (.cons (.int .i64) .bool))))) .any] true), (68, .cells 49 [.fix (TV.ptr 66 0)] true), (69, .map 3 false false (.int .i64) (.int .i64) false), (70, .map 3 false false (.int .i64) .str false), (71, .cells 25 [.lst (.cons (.int .i64) (.cons .str (.cons .str (.cons (.slc (.int .i64)) .bool)))), .lst (.int .i64)] true), (73, .loop 18 Go.LoopState.ready (Option.none) (fiIn Tryz.prog hint 18) [(3, .one (.fix (TV.ptr 68 0)))] (rangeIn Tryz.prog 18 4).1 (rangeIn Tryz.prog 18 4).2.1 (rangeIn Tryz.prog 18 4).2.2), (74, .map 3 false false (.int .i64) .bool false)], 76, 78, 2016⟩
noncomputable def L56_2_76 : Nat → (List Int) → (List (Int × (List UInt8 × (List UInt8 × (List Int × Bool))))) → (List Int) → Int → Int → Int → Bool → Bool → Int → (List (Int × (List UInt8 × (List UInt8 × (List UInt8 × (Int × Bool)))))) → (List (Int × Int)) → (List (Int × List UInt8)) → (List (Int × (List UInt8 × (List UInt8 × (List Int × Bool))))) → (List Int) → (List (Int × Bool)) → Option (Unit × (((List (Int × (List UInt8 × (List UInt8 × (List Int × Bool))))) × ((List Int) × (Int × (Int × (Int × (Bool × (Bool × (Unit × (Unit × (Int × ((List (Int × (List UInt8 × (List UInt8 × (List UInt8 × (Int × Bool)))))) × Unit))))))))))) × ((Unit × Unit) × ((List (Int × Int)) × ((List (Int × List UInt8)) × (((List (Int × (List UInt8 × (List UInt8 × (List Int × Bool))))) × ((List Int) × Unit)) × ((Unit × Unit) × ((List (Int × Bool)) × Unit))))))))
 | 0, _, _, _, _, _, _, _, _, _, _, _, _, _, _, _ => none
 | n + 1, t5, c66_0, c66_1, c66_2, c66_3, c66_4, c66_5, c66_6, c66_9, c66_10, m69, m70, c71_0, c71_1, m74 =>
 bif (ilt (0 : Int) (len t5)) then
  bif ((ile (0 : Int) (IntKind.wrap .i64 ((len t5) - (1 : Int)))) && (ilt (IntKind.wrap .i64 ((len t5) - (1 : Int))) (len t5))) then
  Option.bind (t5[(Int.toNat (IntKind.wrap .i64 ((len t5) - (1 : Int))))]?) fun x28 =>
  bif ((ile (0 : Int) (IntKind.wrap .i64 ((len t5) - (1 : Int)))) && (ile (IntKind.wrap .i64 ((len t5) - (1 : Int))) (len t5))) then
  bif (ile (0 : Int) x28) then
  Option.bind (c71_0[(Int.toNat x28)]?) fun x29 =>
  Option.bind (L56_6_78 (n + 1) (List.take ((Int.toNat (IntKind.wrap .i64 ((len t5) - (1 : Int)))) - 0) (List.drop 0 t5)) x29.2.2.2.1 (len x29.2.2.2.1) (0 : Int) c66_0 c66_1 c66_2 c66_3 c66_4 c66_5 c66_6 c66_9 c66_10 m69 m70 c71_0 c71_1 m74) fun y30 =>
  L56_2_76 n y30.1.2.2.2.1 y30.2.1.1 y30.2.1.2.1 y30.2.1.2.2.1 y30.2.1.2.2.2.1 y30.2.1.2.2.2.2.1 y30.2.1.2.2.2.2.2.1 y30.2.1.2.2.2.2.2.2.1 y30.2.1.2.2.2.2.2.2.2.2.2.1 y30.2.1.2.2.2.2.2.2.2.2.2.2.1 y30.2.2.2.1 y30.2.2.2.2.1 y30.2.2.2.2.2.1.1 y30.2.2.2.2.2.1.2.1 y30.2.2.2.2.2.2.2.1
  else none
  else none
  else none
 else
 some ((), ((c66_0, (c66_1, (c66_2, (c66_3, (c66_4, (c66_5, (c66_6, ((), ((), (c66_9, (c66_10, ()))))))))))), (((), ()), (m69, (m70, ((c71_0, (c71_1, ())), (((), ()), (m74, ()))))))))
noncomputable def L56_2_76_it : LoopIt := ⟨56, 2, none, L56_2_76_T, [(.exit 0, L56_2_76_Xexit0)], 1, fun n x => L56_2_76 n x.1.2.2.2.1 x.2.1.1 x.2.1.2.1 x.2.1.2.2.1 x.2.1.2.2.2.1 x.2.1.2.2.2.2.1 x.2.1.2.2.2.2.2.1 x.2.1.2.2.2.2.2.2.1 x.2.1.2.2.2.2.2.2.2.2.2.1 x.2.1.2.2.2.2.2.2.2.2.2.2.1 x.2.2.2.1 x.2.2.2.2.1 x.2.2.2.2.2.1.1 x.2.2.2.2.2.1.2.1 x.2.2.2.2.2.2.2.1, [65, 72]⟩
theorem L56_2_76_Xexit0_ok : L56_2_76_Xexit0.ok Tryz.prog hint := by
 intro p hp
 simp only [L56_2_76_Xexit0, List.mem_cons, List.not_mem_nil, or_false] at hp
 rcases hp with rfl | rfl | rfl | rfl | rfl | rfl | rfl
 ·trivial
 ·trivial
 ·trivial
 ·trivial
 ·trivial
 ·exact Uniq.of (by kernel_rfl) (by kernel_rfl)
 ·trivial
theorem L56_2_76_T_ok : L56_2_76_T.ok Tryz.prog hint := by
 intro p hp
 simp only [L56_2_76_T, List.mem_cons, List.not_mem_nil, or_false] at hp
 rcases hp with rfl | rfl | rfl | rfl | rfl | rfl | rfl
 ·trivial
 ·trivial
 ·trivial
 ·trivial
 ·trivial
 ·exact Uniq.of (by kernel_rfl) (by kernel_rfl)
 ·trivial
theorem L56_2_76_ok : ∀ n, LoopOK Tryz.prog hint shT L56_2_76_it n :=
 LoopOK.of (hk := fun β => (Known.mk [] [L56_6_78_it]).hk β) (sh := shT) (OneLoop.of (by kernel_rfl)) L56_2_76_T_ok ⟨⟨L56_2_76_Xexit0_ok, Nat.le_refl _, Nat.le_refl _⟩, trivial⟩ (fun m => KnownOK.hook (KnownOK.nil.loop L56_6_78_ok L56_6_78_T_ok) m)
  (fun _ => by kernel_rfl) (fun m x => by kernel_rfl)
noncomputable def L9_5_Xexit0 : Tm := ⟨[(6, .one (.fix (TV.ptr 66 0)))], [(65, .cells 27 [.int .i64, .int .i64, .int .i64, .bool, .bool] true), (66, .cells 53 [.lst (.cons (.int .i64) (.cons .str (.cons .str (.cons (.slc (.int .i64)) .bool)))), .lst (.int .i64), .int .i64, .int .i64, .int .i64, .bool, .bool, .fix TV.undef, .fix TV.undef, .int .i64, .all 67 45 (.cons (.int .i64) (.cons .str (.cons .str (.cons .str (.cons (.int .i64) .bool))))) .any] true)], 67, 68, 1003⟩
noncomputable def L9_5_Xret : Tm := ⟨[(4, .one (.fix (TV.raw (Go.Value.slice (Option.none) 0 0)))), (5, .one (.int .i64))], [(65, .cells 27 [.int .i64, .int .i64, .int .i64, .bool, .bool] true), (66, .cells 53 [.lst (.cons (.int .i64) (.cons .str (.cons .str (.cons (.slc (.int .i64)) .bool)))), .lst (.int .i64), .int .i64, .int .i64, .int .i64, .bool, .bool, .fix TV.undef, .fix TV.undef, .int .i64, .all 67 45 (.cons (.int .i64) (.cons .str (.cons .str (.cons .str (.cons (.int .i64) .bool))))) .any] true)], 67, 68, 1003⟩
noncomputable def L9_5_T : Tm := ⟨[(3, .one (.fix (TV.ptr 65 0))), (6, .one (.fix (TV.ptr 66 0))), (18, .one (.lst (.int .i64))), (19, .one (.int .i64)), (20, .one (.int .i64))], [(65, .cells 27 [.int .i64, .int .i64, .int .i64, .bool, .bool] true), (66, .cells 53 [.lst (.cons (.int .i64) (.cons .str (.cons .str (.cons (.slc (.int .i64)) .bool)))), .lst (.int .i64), .int .i64, .int .i64, .int .i64, .bool, .bool, .fix TV.undef, .fix TV.undef, .int .i64, .all 67 45 (.cons (.int .i64) (.cons .str (.cons .str (.cons .str (.cons (.int .i64) .bool))))) .any] true)], 67, 68, 1003⟩
noncomputable def L9_5 : Nat → (List Int) → Int → Int → Int → Int → Int → Bool → Bool → (List (Int × (List UInt8 × (List UInt8 × (List Int × Bool))))) → (List Int) → Int → Int → Int → Bool → Bool → Int → (List (Int × (List UInt8 × (List UInt8 × (List UInt8 × (Int × Bool)))))) → Option (((Unit × Unit) × ((Int × (Int × (Int × (Bool × (Bool × Unit))))) × (((List (Int × (List UInt8 × (List UInt8 × (List Int × Bool))))) × ((List Int) × (Int × (Int × (Int × (Bool × (Bool × (Unit × (Unit × (Int × ((List (Int × (List UInt8 × (List UInt8 × (List UInt8 × (Int × Bool)))))) × Unit))))))))))) × Unit))) ⊕ ((Unit × (Int × Unit)) × ((Int × (Int × (Int × (Bool × (Bool × Unit))))) × (((List (Int × (List UInt8 × (List UInt8 × (List Int × Bool))))) × ((List Int) × (Int × (Int × (Int × (Bool × (Bool × (Unit × (Unit × (Int × ((List (Int × (List UInt8 × (List UInt8 × (List UInt8 × (Int × Bool)))))) × Unit))))))))))) × Unit))))
 | 0, _, _, _, _, _, _, _, _, _, _, _, _, _, _, _, _, _ => none
 | n + 1, t18, t19, t20, c65_0, c65_1, c65_2, c65_3, c65_4, c66_0, c66_1, c66_2, c66_3, c66_4, c66_5, c66_6, c66_9, c66_10 =>
 bif (ilt t20 t19) then
  bif (ile (0 : Int) t20) then
  Option.bind (t18[(Int.toNat t20)]?) fun x40 =>
  bif c65_4 then
  Option.bind (L56_2_76 (n + 1) (x40 :: ([] : List Int)) c66_0 c66_1 c66_2 c66_3 c66_4 c66_5 c66_6 c66_9 c66_10 (mput (Sh.int Go.IntKind.i64) [] x40 (1 : Int)) [] c66_0 c66_1 (mput (Sh.int Go.IntKind.i64) [] x40 true)) fun y41 =>
  bif (room (((List.length y41.2.1.2.2.2.2.2.2.2.2.2.2.1) + (List.length (((1 : Int), (([] : List UInt8), (([] : List UInt8), (([] : List UInt8), ((0 : Int), true))))) :: []))) * 73)) then
  Option.bind (plan (n + 2) x40 false (0 : Int) y41.2.1.1 y41.2.1.2.1 y41.2.1.2.2.1 y41.2.1.2.2.2.1 y41.2.1.2.2.2.2.1 y41.2.1.2.2.2.2.2.1 y41.2.1.2.2.2.2.2.2.1 y41.2.1.2.2.2.2.2.2.2.2.2.1 (y41.2.1.2.2.2.2.2.2.2.2.2.2.1 ++ (((1 : Int), (([] : List UInt8), (([] : List UInt8), (([] : List UInt8), ((0 : Int), true))))) :: [])) y41.2.2.2.1 y41.2.2.2.2.1) fun y42 =>
  bif (room (((List.length y42.2.1.2.2.2.2.2.2.2.2.2.2.1) + (List.length (((2 : Int), (([] : List UInt8), (([] : List UInt8), (([] : List UInt8), ((0 : Int), false))))) :: []))) * 73)) then
  bif (y42.1.1 != (0 : Int)) then
   some (.inr (((), (y42.1.1, ())), ((c65_0, (c65_1, (c65_2, (c65_3, (c65_4, ()))))), ((y42.2.1.1, (y42.2.1.2.1, (y42.2.1.2.2.1, (y42.2.1.2.2.2.1, (y42.2.1.2.2.2.2.1, (y42.2.1.2.2.2.2.2.1, (y42.2.1.2.2.2.2.2.2.1, ((), ((), (y42.2.1.2.2.2.2.2.2.2.2.2.1, ((y42.2.1.2.2.2.2.2.2.2.2.2.2.1 ++ (((2 : Int), (([] : List UInt8), (([] : List UInt8), (([] : List UInt8), ((0 : Int), false))))) :: [])), ()))))))))))), ()))))
  else
  L9_5 n t18 t19 (IntKind.wrap .i64 (t20 + (1 : Int))) c65_0 c65_1 c65_2 c65_3 c65_4 y42.2.1.1 y42.2.1.2.1 y42.2.1.2.2.1 y42.2.1.2.2.2.1 y42.2.1.2.2.2.2.1 y42.2.1.2.2.2.2.2.1 y42.2.1.2.2.2.2.2.2.1 y42.2.1.2.2.2.2.2.2.2.2.2.1 (y42.2.1.2.2.2.2.2.2.2.2.2.2.1 ++ (((2 : Int), (([] : List UInt8), (([] : List UInt8), (([] : List UInt8), ((0 : Int), false))))) :: []))
  else none
  else none
  else
  Option.bind (L56_2_76 (n + 1) (x40 :: ([] : List Int)) c66_0 c66_1 c66_2 c66_3 c66_4 c66_5 c66_6 c66_9 c66_10 (mput (Sh.int Go.IntKind.i64) [] x40 (1 : Int)) [] c66_0 c66_1 (mput (Sh.int Go.IntKind.i64) [] x40 true)) fun y43 =>
  bif (room (((List.length y43.2.1.2.2.2.2.2.2.2.2.2.2.1) + (List.length (((1 : Int), (([] : List UInt8), (([] : List UInt8), (([] : List UInt8), ((0 : Int), (ilt (0 : Int) t20)))))) :: []))) * 73)) then
  Option.bind (plan (n + 2) x40 false (0 : Int) y43.2.1.1 y43.2.1.2.1 y43.2.1.2.2.1 y43.2.1.2.2.2.1 y43.2.1.2.2.2.2.1 y43.2.1.2.2.2.2.2.1 y43.2.1.2.2.2.2.2.2.1 y43.2.1.2.2.2.2.2.2.2.2.2.1 (y43.2.1.2.2.2.2.2.2.2.2.2.2.1 ++ (((1 : Int), (([] : List UInt8), (([] : List UInt8), (([] : List UInt8), ((0 : Int), (ilt (0 : Int) t20)))))) :: [])) y43.2.2.2.1 y43.2.2.2.2.1) fun y44 =>
  bif (room (((List.length y44.2.1.2.2.2.2.2.2.2.2.2.2.1) + (List.length (((2 : Int), (([] : List UInt8), (([] : List UInt8), (([] : List UInt8), ((0 : Int), false))))) :: []))) * 73)) then
  bif (y44.1.1 != (0 : Int)) then
  some (.inr (((), (y44.1.1, ())), ((c65_0, (c65_1, (c65_2, (c65_3, (c65_4, ()))))), ((y44.2.1.1, (y44.2.1.2.1, (y44.2.1.2.2.1, (y44.2.1.2.2.2.1, (y44.2.1.2.2.2.2.1, (y44.2.1.2.2.2.2.2.1, (y44.2.1.2.2.2.2.2.2.1, ((), ((), (y44.2.1.2.2.2.2.2.2.2.2.2.1, ((y44.2.1.2.2.2.2.2.2.2.2.2.2.1 ++ (((2 : Int), (([] : List UInt8), (([] : List UInt8), (([] : List UInt8), ((0 : Int), false))))) :: [])), ()))))))))))), ()))))
  else
  L9_5 n t18 t19 (IntKind.wrap .i64 (t20 + (1 : Int))) c65_0 c65_1 c65_2 c65_3 c65_4 y44.2.1.1 y44.2.1.2.1 y44.2.1.2.2.1 y44.2.1.2.2.2.1 y44.2.1.2.2.2.2.1 y44.2.1.2.2.2.2.2.1 y44.2.1.2.2.2.2.2.2.1 y44.2.1.2.2.2.2.2.2.2.2.2.1 (y44.2.1.2.2.2.2.2.2.2.2.2.2.1 ++ (((2 : Int), (([] : List UInt8), (([] : List UInt8), (([] : List UInt8), ((0 : Int), false))))) :: []))
  else none
  else none
  else none
 else
 some (.inl (((), ()), ((c65_0, (c65_1, (c65_2, (c65_3, (c65_4, ()))))), ((c66_0, (c66_1, (c66_2, (c66_3, (c66_4, (c66_5, (c66_6, ((), ((), (c66_9, (c66_10, ()))))))))))), ()))))
noncomputable def L9_5_it : LoopIt := ⟨9, 5, none, L9_5_T, [(.exit 0, L9_5_Xexit0), (.ret, L9_5_Xret)], 3, fun n x => L9_5 n x.1.2.2.1 x.1.2.2.2.1 x.1.2.2.2.2.1 x.2.1.1 x.2.1.2.1 x.2.1.2.2.1 x.2.1.2.2.2.1 x.2.1.2.2.2.2.1 x.2.2.1.1 x.2.2.1.2.1 x.2.2.1.2.2.1 x.2.2.1.2.2.2.1 x.2.2.1.2.2.2.2.1 x.2.2.1.2.2.2.2.2.1 x.2.2.1.2.2.2.2.2.2.1 x.2.2.1.2.2.2.2.2.2.2.2.2.1 x.2.2.1.2.2.2.2.2.2.2.2.2.2.1, [64]⟩
theorem L9_5_Xexit0_ok : L9_5_Xexit0.ok Tryz.prog hint := by
 intro p hp
 simp only [L9_5_Xexit0, List.mem_cons, List.not_mem_nil, or_false] at hp
 rcases hp with rfl | rfl
 ·trivial
 ·trivial
theorem L9_5_Xret_ok : L9_5_Xret.ok Tryz.prog hint := by
 intro p hp
 simp only [L9_5_Xret, List.mem_cons, List.not_mem_nil, or_false] at hp
 rcases hp with rfl | rfl
 ·trivial
 ·trivial
theorem L9_5_T_ok : L9_5_T.ok Tryz.prog hint := by
 intro p hp
 simp only [L9_5_T, List.mem_cons, List.not_mem_nil, or_false] at hp
 rcases hp with rfl | rfl
 ·trivial
 ·trivial
theorem L9_5_ok : ∀ n, LoopOK Tryz.prog hint shT L9_5_it n :=
 LoopOK.of (hk := fun β => (Known.mk [] [L56_2_76_it]).hkP [plan_it] β) (sh := shT) (OneLoop.of (by kernel_rfl)) L9_5_T_ok ⟨⟨L9_5_Xexit0_ok, Nat.le_refl _, Nat.le_refl _⟩, ⟨L9_5_Xret_ok, Nat.le_refl _, Nat.le_refl _⟩, trivial⟩ (fun m => KnownOK.hookP (KnownOK.nil.loop L56_2_76_ok L56_2_76_T_ok) (KnownP.nil.fn plan_ok (plan_Tok _ _)) m)
  (fun _ => by kernel_rfl) (fun m x => by kernel_rfl)
noncomputable def events (n : Nat) (g : (List (Int × (List UInt8 × (List UInt8 × (List Int × Bool)))) × List Int)) (o : (Int × (Int × (Int × (Bool × Bool))))) : Option ((List (Int × (List UInt8 × (List UInt8 × (List UInt8 × (Int × Bool)))))) × (Int × Unit)) :=
 Option.bind (right n (g.1, g.2)) fun y0 =>
 bif (!y0.1) then
 some ([], (1 : Int), ())
 else
 Option.bind (L9_5 (n + 5) g.2 (len g.2) (0 : Int) o.1 o.2.1 o.2.2.1 o.2.2.2.1 o.2.2.2.2 g.1 g.2 o.1 o.2.1 o.2.2.1 o.2.2.2.1 o.2.2.2.2 (0 : Int) []) fun y45 =>
 match y45 with
 | .inl y46 =>
  some (y46.2.2.1.2.2.2.2.2.2.2.2.2.2.1, (0 : Int), ())
 | .inr y47 =>
  some ([], y47.1.2.1, ())
noncomputable def events_it : FnIt := ⟨9, [(true, (.cons (.slc (.cons (.int .i64) (.cons .str (.cons .str (.cons (.slc (.int .i64)) .bool))))) (.slc (.int .i64)))), (true, (.cons (.int .i64) (.cons (.int .i64) (.cons (.int .i64) (.cons .bool .bool)))))], [(false, (.slc (.cons (.int .i64) (.cons .str (.cons .str (.cons .str (.cons (.int .i64) .bool))))))), (false, (.int .i64))], 8, fun n x => events n x.1 x.2.1⟩
theorem events_ok (n : Nat) : FnOK Tryz.prog hint shT events_it n :=
 FnOK.of (hk := fun β => (Known.mk [right_it] [L9_5_it]).hk β) (sh := shT) (fun m _ => KnownOK.hook ((KnownOK.nil.fn right_ok).loop L9_5_ok L9_5_T_ok) m) (fun x => by kernel_rfl)
end Go.Proofs.YteknbnkjelmfaaaGreatDoor
/- Plain functions for the program's. -/
namespace Go.Proofs.YteknbnkjelmfaaaGreatDoor
open Go Go.Iv Go.Gv
set_option maxRecDepth 100000
set_option linter.unusedVariables false
noncomputable def L6_6_Xexit0 : Tm := ⟨[(0, .one (.int .i64)), (1, .one (.bool)), (6, .one (.fix (TV.ptr 65 0)))], [(65, .cells 25 [.all 66 40 (.cons (.int .i64) (.cons .str (.cons .str (.cons (.slc (.int .i64)) .bool)))) .ex, .all 67 3 (.int .i64) .no] true)], 66, 68, 1003⟩
noncomputable def L6_6_T : Tm := ⟨[(0, .one (.int .i64)), (1, .one (.bool)), (6, .one (.fix (TV.ptr 65 0))), (7, .one (.int .i64))], [(65, .cells 25 [.all 66 40 (.cons (.int .i64) (.cons .str (.cons .str (.cons (.slc (.int .i64)) .bool)))) .ex, .all 67 3 (.int .i64) .no] true)], 66, 68, 1003⟩
noncomputable def L6_6 : Nat → Int → Bool → Int → (List (Int × (List UInt8 × (List UInt8 × (List Int × Bool))))) → (List Int) → Option ((Int × (Bool × (Unit × Unit))) × (((List (Int × (List UInt8 × (List UInt8 × (List Int × Bool))))) × ((List Int) × Unit)) × Unit))
 | 0, _, _, _, _, _ => none
 | n + 1, t0, t1, t7, c65_0, c65_1 =>
 bif (ilt t7 t0) then
  bif (ilt (IntKind.wrap .i64 (t7 + (1 : Int))) t0) then
  bif (room (((List.length c65_0) + (List.length (((2 : Int), (([(116 : UInt8), (97 : UInt8), (103 : UInt8), (58 : UInt8), (121 : UInt8), (97 : UInt8), (109 : UInt8), (108 : UInt8), (46 : UInt8), (111 : UInt8), (114 : UInt8), (103 : UInt8), (44 : UInt8), (50 : UInt8), (48 : UInt8), (48 : UInt8), (50 : UInt8), (58 : UInt8), (115 : UInt8), (101 : UInt8), (113 : UInt8)] : List UInt8), (([] : List UInt8), (((IntKind.wrap .i64 (t7 + (1 : Int))) :: ([] : List Int)), false)))) :: []))) * 73)) then
  L6_6 n t0 t1 (IntKind.wrap .i64 (t7 + (1 : Int))) (c65_0 ++ (((2 : Int), (([(116 : UInt8), (97 : UInt8), (103 : UInt8), (58 : UInt8), (121 : UInt8), (97 : UInt8), (109 : UInt8), (108 : UInt8), (46 : UInt8), (111 : UInt8), (114 : UInt8), (103 : UInt8), (44 : UInt8), (50 : UInt8), (48 : UInt8), (48 : UInt8), (50 : UInt8), (58 : UInt8), (115 : UInt8), (101 : UInt8), (113 : UInt8)] : List UInt8), (([] : List UInt8), (((IntKind.wrap .i64 (t7 + (1 : Int))) :: ([] : List Int)), false)))) :: [])) c65_1
  else none
  else
  bif (room (((List.length c65_0) + (List.length (((2 : Int), (([(116 : UInt8), (97 : UInt8), (103 : UInt8), (58 : UInt8), (121 : UInt8), (97 : UInt8), (109 : UInt8), (108 : UInt8), (46 : UInt8), (111 : UInt8), (114 : UInt8), (103 : UInt8), (44 : UInt8), (50 : UInt8), (48 : UInt8), (48 : UInt8), (50 : UInt8), (58 : UInt8), (115 : UInt8), (101 : UInt8), (113 : UInt8)] : List UInt8), (([] : List UInt8), (([] : List Int), false)))) :: []))) * 73)) then
  L6_6 n t0 t1 (IntKind.wrap .i64 (t7 + (1 : Int))) (c65_0 ++ (((2 : Int), (([(116 : UInt8), (97 : UInt8), (103 : UInt8), (58 : UInt8), (121 : UInt8), (97 : UInt8), (109 : UInt8), (108 : UInt8), (46 : UInt8), (111 : UInt8), (114 : UInt8), (103 : UInt8), (44 : UInt8), (50 : UInt8), (48 : UInt8), (48 : UInt8), (50 : UInt8), (58 : UInt8), (115 : UInt8), (101 : UInt8), (113 : UInt8)] : List UInt8), (([] : List UInt8), (([] : List Int), false)))) :: [])) c65_1
  else none
 else
 some ((t0, (t1, ((), ()))), ((c65_0, (c65_1, ())), ()))
noncomputable def L6_6_it : LoopIt := ⟨6, 6, none, L6_6_T, [(.exit 0, L6_6_Xexit0)], 0, fun n x => L6_6 n x.1.1 x.1.2.1 x.1.2.2.2.1 x.2.1.1 x.2.1.2.1, []⟩
theorem L6_6_Xexit0_ok : L6_6_Xexit0.ok Tryz.prog hint := by
 intro p hp
 simp only [L6_6_Xexit0, List.mem_cons, List.not_mem_nil, or_false] at hp
 rcases hp with rfl
 ·trivial
theorem L6_6_T_ok : L6_6_T.ok Tryz.prog hint := by
 intro p hp
 simp only [L6_6_T, List.mem_cons, List.not_mem_nil, or_false] at hp
 rcases hp with rfl
 ·trivial
theorem L6_6_ok : ∀ n, LoopOK Tryz.prog hint shT L6_6_it n :=
 LoopOK.of (hk := fun β => (Known.mk [] []).hk β) (sh := shT) (OneLoop.of (by kernel_rfl)) L6_6_T_ok ⟨⟨L6_6_Xexit0_ok, Nat.le_refl _, Nat.le_refl _⟩, trivial⟩ (fun m => KnownOK.hook KnownOK.nil m)
  (fun _ => by kernel_rfl) (fun m x => by kernel_rfl)
noncomputable def deepL (n : Nat) (m : Int) (flow : Bool) : Option (Bool × Unit) :=
 Option.bind (bif (ilt m (1 : Int)) then
  some true
 else
 some (ilt (230 : Int) m)) fun b1 =>
 bif b1 then
 some (true, ())
 else
 Option.bind (L6_6 (n + 9) m flow (0 : Int) [] ((0 : Int) :: ([] : List Int))) fun y2 =>
 Option.bind (events n (y2.2.1.1, y2.2.1.2.1) ((0 : Int), ((0 : Int), ((0 : Int), (y2.1.2.1, false))))) fun y3 =>
 bif (ilt (200 : Int) y2.1.1) then
 bif (y3.2.1 == (8 : Int)) then
  some (((len y3.1) == (0 : Int)), ())
 else
 some (false, ())
 else
 bif (y3.2.1 == (0 : Int)) then
 some (((len y3.1) == (IntKind.wrap .i64 ((IntKind.wrap .i64 ((2 : Int) * y2.1.1)) + (2 : Int)))), ())
 else
 some (false, ())
noncomputable def deepL_it : FnIt := ⟨6, [(false, (.int .i64)), (false, .bool)], [(false, .bool)], 9, fun n x => deepL n x.1 x.2.1⟩
theorem deepL_ok (n : Nat) : FnOK Tryz.prog hint shT deepL_it n :=
 FnOK.of (hk := fun β => (Known.mk [events_it] [L6_6_it]).hk β) (sh := shT) (fun m _ => KnownOK.hook ((KnownOK.nil.loop L6_6_ok L6_6_T_ok).fn events_ok) m) (fun x => by kernel_rfl)
end Go.Proofs.YteknbnkjelmfaaaGreatDoor
/- Graphs that are right: what the program tells; maps. -/
namespace Go.Proofs.YteknbnkjelmfaaaGreatDoor
open Go Go.Iv Go.Gv
abbrev Nod := Int × (List UInt8 × (List UInt8 × (List Int × Bool)))
abbrev Evt := Int × (List UInt8 × (List UInt8 × (List UInt8 × (Int × Bool))))
def tagStr : List UInt8 := [116, 97, 103, 58, 121, 97, 109, 108, 46, 111, 114, 103, 44, 50, 48, 48, 50, 58, 115, 116, 114]
def tagSeq : List UInt8 := [116, 97, 103, 58, 121, 97, 109, 108, 46, 111, 114, 103, 44, 50, 48, 48, 50, 58, 115, 101, 113]
theorem valid_seq0 (k : Nat) : valid (k + 60) tagSeq = some (true, ()) := by kernel_rfl
theorem valid_seq {n : Nat} (hn : 60 ≤ n) : valid n tagSeq = some (true, ()) := by
 obtain ⟨k, rfl⟩ : ∃ k, n = k + 60 := ⟨n - 60, by omega⟩
 exact valid_seq0 k
theorem node_seq {n : Nat} (hn : 60 ≤ n) (l : List Int) : node n (2, (tagSeq, ([], (l, false)))) = some (true, ()) := by
 unfold node
 have e1 : ilt 1000 (len tagSeq) = false := by decide
 have e2 : (tagSeq == [33]) = false := by decide
 simp only [e1, cond_false]
 rw [show ((tagSeq == ([(33 : UInt8)] : List UInt8)) = false) from e2]
 rw [valid_seq hn]
 rfl
theorem L31_2_spec (g : List Nod) (rt l : List Int) (hl : ∀ c ∈ l, 0 ≤ c ∧ c < (g.length : Int)) (hb : l.length ≤ 100000) : ∀ (k n : Nat) (t : Int), 0 ≤ t → t + k = l.length → k < n →
  L31_2 n l (len l) t g rt = some (.inl ((), ((g, (rt, ())), ()))) := by
 intro k
 induction k with
 | zero =>
  intro n t h0 h1 hn
  cases n with
  | zero => omega
  | succ n =>
   have e1 : ilt t (len l) = false := ilt_f (by unfold len; omega)
   simp only [L31_2, e1, cond_false]
 | succ k ih =>
  intro n t h0 h1 hn
  cases n with
  | zero => omega
  | succ n =>
   have e1 : ilt t (len l) = true := ilt_t (by unfold len; omega)
   have e2 : ile 0 t = true := ile_t h0
   have hlt : t.toNat < l.length := by omega
   have e3 : l[t.toNat]? = some l[t.toNat] := List.getElem?_eq_getElem hlt
   have hc := hl _ (List.getElem_mem hlt)
   generalize l[t.toNat] = c at e3 hc
   have e4 : ilt c 0 = false := ilt_f (by omega)
   have e5 : ile (len g) c = false := by rw [ile_eq]; exact decide_eq_false (by unfold len; omega)
   have w : IntKind.wrap .i64 (t + 1) = t + 1 := wrap_id (by omega) (by omega)
   simp only [L31_2, e1, e2, e3, e4, e5, w, cond_true, cond_false, Option.bind_some]
   exact ih n (t + 1) (by omega) (by omega) (by omega)
theorem are_spec {n : Nat} (g : List Nod) (rt l : List Int) (hl : ∀ c ∈ l, 0 ≤ c ∧ c < (g.length : Int)) (hb : l.length ≤ 100000) (hn : l.length ≤ n) : are n (g, rt) l = some (true, ()) := by
 unfold are
 rw [L31_2_spec g rt l hl hb l.length (n + 1) 0 (Int.le_refl _) (by omega) (by omega)]
 rfl
theorem L17_5_spec (g : List Nod) (rt : List Int) (K : Nat) (hg : g.length ≤ 20000) (hK : K * g.length ≤ 20000) (hx : ∀ (j : Nat) x, g[j]? = some x → (∀ n, 200 ≤ n → node n x = some (true, ())) ∧ x.2.2.2.1.length ≤ K ∧ ∀ c ∈ x.2.2.2.1, 0 ≤ c ∧ c < (g.length : Int)) : ∀ (k n : Nat) (t3 t : Int), 0 ≤ t → t + k = g.length → 0 ≤ t3 → t3 ≤ K * t → K + k + 200 < n →
  L17_5 n t3 g (len g) t g rt = some (.inl ((), ((g, (rt, ())), ()))) := by
 intro k
 induction k with
 | zero =>
  intro n t3 t h0 h1 h2 h3 hn
  cases n with
  | zero => omega
  | succ n =>
   have e1 : ilt t (len g) = false := ilt_f (by unfold len; omega)
   simp only [L17_5, e1, cond_false]
 | succ k ih =>
  intro n t3 t h0 h1 h2 h3 hn
  cases n with
  | zero => omega
  | succ n =>
   have e1 : ilt t (len g) = true := ilt_t (by unfold len; omega)
   have e2 : ile 0 t = true := ile_t h0
   have hlt : t.toNat < g.length := by omega
   have e3 : g[t.toNat]? = some g[t.toNat] := List.getElem?_eq_getElem hlt
   obtain ⟨x1, x2, x3⟩ := hx _ _ e3
   generalize g[t.toNat] = x at e3 x1 x2 x3
   have hm : (K : Int) * (t + 1) ≤ 20000 := by
    have a1 : (K : Int) * (t + 1) ≤ K * g.length := Int.mul_le_mul_of_nonneg_left (by omega) (by omega)
    have a2 : ((K * g.length : Nat) : Int) = (K : Int) * g.length := by simp
    omega
   have hm2 : (K : Int) * (t + 1) = K * t + K := by rw [Int.mul_add, Int.mul_one]
   have w1 : IntKind.wrap .i64 (t3 + len x.2.2.2.1) = t3 + len x.2.2.2.1 := wrap_id (by unfold len; omega) (by unfold len; omega)
   have w2 : IntKind.wrap .i64 (t + 1) = t + 1 := wrap_id (by omega) (by omega)
   have e4 : ilt 20000 (t3 + len x.2.2.2.1) = false := ilt_f (by unfold len; omega)
   have e5 : node (n + 1) (x.1, (x.2.1, (x.2.2.1, (x.2.2.2.1, x.2.2.2.2)))) = some (true, ()) := x1 (n + 1) (by omega)
   have hKs : K ≤ 20000 := by
    have : K * 1 ≤ K * g.length := Nat.mul_le_mul_left K (by omega)
    omega
   have e6 := are_spec (n := n + 6) g rt x.2.2.2.1 x3 (by omega) (by omega)
   simp only [L17_5, e1, e2, e3, w1, w2, e4, e5, e6, cond_true, cond_false, Option.bind_some, Bool.not_true]
   exact ih n _ (t + 1) (by omega) (by omega) (by unfold len; omega) (by unfold len; omega) (by omega)
theorem right_spec {n : Nat} (g : List Nod) (rt : List Int) (K : Nat) (hg : g.length ≤ 20000) (hK : K * g.length ≤ 20000) (hr : ∀ c ∈ rt, 0 ≤ c ∧ c < (g.length : Int)) (hrl : rt.length ≤ 20000) (hx : ∀ (j : Nat) x, g[j]? = some x → (∀ n, 200 ≤ n → node n x = some (true, ())) ∧ x.2.2.2.1.length ≤ K ∧ ∀ c ∈ x.2.2.2.1, 0 ≤ c ∧ c < (g.length : Int)) (hn : K + g.length + rt.length + 201 ≤ n) : right n (g, rt) = some (true, ()) := by
 unfold right
 have e1 : ilt 20000 (len g) = false := ilt_f (by unfold len; omega)
 have e2 : ilt 20000 (len rt) = false := ilt_f (by unfold len; omega)
 simp only [e1, e2, cond_false]
 rw [are_spec g rt rt hr (by omega) (by omega)]
 simp only [Option.bind_some, Bool.not_true, cond_false]
 rw [L17_5_spec g rt K hg hK hx g.length n 0 0 (Int.le_refl _) (by omega) (Int.le_refl _) (by omega) (by omega)]
 rfl
abbrev KI : Sh := .int .i64
theorem mget_cons {β : Type} (a : Int) (b : β) (r : List (Int × β)) (z : Int) : mget KI ((a, b) :: r) z = if z = a then some b else mget KI r z := by
 show (bif Sh.eqK KI z a then some b else mget KI r z) = _
 by_cases h : z = a
 ·rw [if_pos h, show Sh.eqK KI z a = true from by subst h; exact beq_self_eq_true z]; rfl
 ·rw [if_neg h, show Sh.eqK KI z a = false from beq_false_of_ne h]; rfl
theorem mput_cons {β : Type} (a : Int) (b : β) (r : List (Int × β)) (x : Int) (y : β) : mput KI ((a, b) :: r) x y = if x = a then (x, y) :: r else (a, b) :: mput KI r x y := by
 show (bif Sh.eqK KI x a then (x, y) :: r else (a, b) :: mput KI r x y) = _
 by_cases h : x = a
 ·rw [if_pos h, show Sh.eqK KI x a = true from by subst h; exact beq_self_eq_true x]; rfl
 ·rw [if_neg h, show Sh.eqK KI x a = false from beq_false_of_ne h]; rfl
theorem mget_mput {β : Type} (x : Int) (y : β) (z : Int) : ∀ l : List (Int × β), mget KI (mput KI l x y) z = if z = x then some y else mget KI l z := by
 intro l
 induction l with
 | nil => exact mget_cons x y [] z
 | cons p r ih =>
  obtain ⟨a, b⟩ := p
  rw [mput_cons, mget_cons]
  by_cases hxa : x = a
  ·rw [if_pos hxa, mget_cons]
   by_cases h : z = x
   ·rw [if_pos h, if_pos h]
   ·rw [if_neg h, if_neg h, if_neg (fun e => h (e.trans hxa.symm))]
  ·rw [if_neg hxa, mget_cons, ih]
   by_cases h : z = a
   ·rw [if_pos h, if_pos h, if_neg (fun e => hxa (e.symm.trans h))]
   ·rw [if_neg h, if_neg h]
theorem mgetD_mput {β : Type} (l : List (Int × β)) (x : Int) (y : β) (z : Int) (d : β) : mgetD KI (mput KI l x y) z d = if z = x then y else mgetD KI l z d := by
 unfold mgetD
 rw [mget_mput]
 split <;> rfl
theorem mgetD_nil {β : Type} (z : Int) (d : β) : mgetD KI ([] : List (Int × β)) z d = d := rfl
end Go.Proofs.YteknbnkjelmfaaaGreatDoor
/- Lists in lists: the graph, what is used, the events. -/
namespace Go.Proofs.YteknbnkjelmfaaaGreatDoor
open Go Go.Iv Go.Gv
def cn (m i : Int) : Nod := (2, (tagSeq, ([], (if i + 1 < m then [i + 1] else [], false))))
def build (m : Int) : Nat → Int → List Nod → List Nod
 | 0, _, l => l
 | k + 1, i, l => build m k (i + 1) (l ++ [cn m i])
theorem build_len (m : Int) : ∀ (k : Nat) (i : Int) (l : List Nod), (build m k i l).length = l.length + k := by
 intro k
 induction k with
 | zero => intro i l; rfl
 | succ k ih => intro i l; simp only [build]; rw [ih]; simp; omega
theorem build_get (m : Int) : ∀ (k : Nat) (i : Int) (l : List Nod), (∀ (j : Nat) x, l[j]? = some x → x = cn m j) → (l.length : Int) = i → ∀ (j : Nat) x, (build m k i l)[j]? = some x → x = cn m j := by
 intro k
 induction k with
 | zero => intro i l h _; exact h
 | succ k ih =>
  intro i l h hl
  simp only [build]
  refine ih (i + 1) _ (fun j x hx => ?_) (by simp; omega)
  rcases Nat.lt_trichotomy j l.length with h1 | h1 | h1
  ·rw [List.getElem?_append_left h1] at hx; exact h j x hx
  ·subst h1; simp at hx; rw [← hx, hl]
  ·rw [List.getElem?_eq_none (by simp; omega)] at hx; cases hx
def gD (m : Int) : List Nod := build m m.toNat 0 []
theorem gD_len {m : Int} (h : 0 ≤ m) : ((gD m).length : Int) = m := by unfold gD; rw [build_len]; simp; omega
theorem gD_get {m : Int} {j : Nat} {x : Nod} (h : (gD m)[j]? = some x) : x = cn m j := build_get m _ 0 [] (fun j x h => by cases h) rfl j x h
theorem gD_at {m i : Int} (h0 : 0 ≤ i) (h1 : i < m) : (gD m)[i.toNat]? = some (cn m i) := by
 have hl := gD_len (m := m) (by omega)
 have hlt : i.toNat < (gD m).length := by omega
 have h := List.getElem?_eq_getElem hlt
 have := gD_get h
 rw [h, this, Int.toNat_of_nonneg h0]
theorem L6_6_spec (m : Int) (flow : Bool) (rt : List Int) (hm : m ≤ 230) : ∀ (k n : Nat) (i : Int) (l : List Nod), 0 ≤ i → i + k = m → l.length + k ≤ 300 → k < n →
  L6_6 n m flow i l rt = some ((m, (flow, ((), ()))), ((build m k i l, (rt, ())), ())) := by
 intro k
 induction k with
 | zero =>
  intro n i l h0 h1 h2 hn
  cases n with
  | zero => omega
  | succ n =>
   have e1 : ilt i m = false := ilt_f (by omega)
   simp only [L6_6, e1, cond_false, build]
 | succ k ih =>
  intro n i l h0 h1 h2 hn
  cases n with
  | zero => omega
  | succ n =>
   have e1 : ilt i m = true := ilt_t (by omega)
   have w : IntKind.wrap .i64 (i + 1) = i + 1 := wrap_id (by omega) (by omega)
   have r : ∀ x : Nod, room ((l.length + List.length (x :: ([] : List Nod))) * 73) = true := fun x => room_ok (by simp; unfold roomy; omega)
   simp only [L6_6, e1, w, r, cond_true]
   by_cases h : i + 1 < m
   ·rw [ilt_t h, cond_true]
    have := ih n (i + 1) (l ++ [cn m i]) (by omega) (by omega) (by simp; omega) (by omega)
    simp only [cn, if_pos h] at this
    simp only [build, cn, if_pos h]
    exact this
   ·rw [ilt_f (by omega), cond_false]
    have := ih n (i + 1) (l ++ [cn m i]) (by omega) (by omega) (by simp; omega) (by omega)
    simp only [cn, if_neg h] at this
    simp only [build, cn, if_neg h]
    exact this
theorem right_deep {m : Int} (h1 : 1 ≤ m) (hm : m ≤ 230) {n : Nat} (hn : 600 ≤ n) : right n (gD m, [0]) = some (true, ()) := by
 have hl := gD_len (m := m) (by omega)
 refine right_spec (gD m) [0] 1 (by omega) (by omega) (fun c hc => ?_) (by simp) (fun j x hx => ?_) (by simp; omega)
 ·rw [List.mem_singleton.1 hc]; omega
 ·have hj := (List.getElem?_eq_some_iff.1 hx).1
  have := gD_get hx
  subst this
  refine ⟨fun n hn => node_seq (by omega) _, ?_, fun c hc => ?_⟩
  ·show (if (j : Int) + 1 < m then [(j : Int) + 1] else []).length ≤ 1
   split <;> simp
  ·have hc' : c ∈ (if (j : Int) + 1 < m then [(j : Int) + 1] else []) := hc
   split at hc'
   ·rw [List.mem_singleton.1 hc']; omega
   ·cases hc'
theorem L56_2_deep {m : Int} (hm : m ≤ 230) (c0 : List Nod) (c1 : List Int) (c2 c3 c4 : Int) (c5 c6 : Bool) (c9 : Int) (c10 : List Evt) (m70 : List (Int × List UInt8)) (rt : List Int) : ∀ (r n : Nat) (i : Int) (u : List (Int × Int)) (s : List (Int × Bool)), 0 ≤ i → i + r + 1 = m → r + 5 < n →
  (∀ x, 0 ≤ mgetD KI u x 0 ∧ mgetD KI u x 0 ≤ 1 ∧ (i < x → mgetD KI u x 0 = 0)) → (∀ x, i < x → mgetD KI s x false = false) →
  ∃ u' s', L56_2_76 n [i] c0 c1 c2 c3 c4 c5 c6 c9 c10 u m70 (gD m) rt s = some ((), ((c0, (c1, (c2, (c3, (c4, (c5, (c6, ((), ((), (c9, (c10, ()))))))))))), (((), ()), (u', (m70, ((gD m, (rt, ())), (((), ()), (s', ())))))))) ∧ ∀ x, mgetD KI u' x 0 ≤ 1 := by
 intro r
 induction r with
 | zero =>
  intro n i u s h0 h1 hn hu hs
  cases n with
  | zero => omega
  | succ n =>
  cases n with
  | zero => omega
  | succ n =>
   have eg := gD_at (m := m) h0 (by omega)
   have e0 : ile 0 i = true := ile_t h0
   have ek : (cn m i).2.2.2.1 = [] := by show (if i + 1 < m then [i + 1] else []) = []; rw [if_neg (by omega)]
   refine ⟨u, s, ?_, fun x => (hu x).2.1⟩
   have w : IntKind.wrap .i64 (len [i] - 1) = 0 := rfl
   have e1 : ilt 0 (len [i]) = true := rfl
   have e2 : ile 0 (0 : Int) = true := rfl
   have e3 : ile 0 (len [i]) = true := rfl
   have e4 : ([i] : List Int)[0]? = some i := rfl
   have e5 : ilt 0 (len ([] : List Int)) = false := rfl
   simp only [L56_2_76, w, e1, e2, e3, e4, e0, eg, ek, cond_true, Bool.and_self, Option.bind_some, Int.toNat_zero]
   simp only [L56_6_78, e5, cond_false, Option.bind_some, List.drop_zero, Nat.sub_self, List.take_zero]
 | succ r ih =>
  intro n i u s h0 h1 hn hu hs
  cases n with
  | zero => omega
  | succ n =>
   have eg := gD_at (m := m) h0 (by omega)
   have e0 : ile 0 i = true := ile_t h0
   have ek : (cn m i).2.2.2.1 = [i + 1] := by show (if i + 1 < m then [i + 1] else []) = [i + 1]; rw [if_pos (by omega)]
   have w : IntKind.wrap .i64 (len [i] - 1) = 0 := rfl
   have e1 : ilt 0 (len [i]) = true := rfl
   have e2 : ile 0 (0 : Int) = true := rfl
   have e3 : ile 0 (len [i]) = true := rfl
   have e4 : ([i] : List Int)[0]? = some i := rfl
   obtain ⟨u', s', q1, q2⟩ := ih n (i + 1) (mput KI u (i + 1) 1) (mput KI s (i + 1) true) (by omega) (by omega) (by omega) (fun x => by
    rw [mgetD_mput]
    split
    ·exact ⟨by omega, by omega, fun h => by omega⟩
    ·exact ⟨(hu x).1, (hu x).2.1, fun h => (hu x).2.2 (by omega)⟩) (fun x hx => by
    rw [mgetD_mput, if_neg (by omega)]; exact hs x (by omega))
   refine ⟨u', s', ?_, q2⟩
   have f1 : ilt 0 (len [i + 1]) = true := rfl
   have f2 : ([i + 1] : List Int)[0]? = some (i + 1) := rfl
   have f3 := hs (i + 1) (by omega)
   have f4 := (hu (i + 1)).2.2 (by omega)
   have f5 : IntKind.wrap .i64 ((0 : Int) + 1) = 1 := rfl
   have f6 : ilt 1 (len [i + 1]) = false := rfl
   have f7 : room ((List.length (List.take 0 (List.drop 0 [i])) + List.length ((i + 1) :: ([] : List Int))) * 9) = true := rfl
   have f8 : room ((List.length ([] : List Int) + List.length ((i + 1) :: ([] : List Int))) * 9) = true := rfl
   cases n with
   | zero => omega
   | succ n =>
   have big : L56_6_78 (n + 1 + 1) [] [i + 1] (len [i + 1]) 0 c0 c1 c2 c3 c4 c5 c6 c9 c10 u m70 (gD m) rt s = some (((), ((), ((), ([i + 1], ())))), ((c0, (c1, (c2, (c3, (c4, (c5, (c6, ((), ((), (c9, (c10, ()))))))))))), (((), ()), (mput KI u (i + 1) 1, (m70, ((gD m, (rt, ())), (((), ()), (mput KI s (i + 1) true, ())))))))) := by
    have s1 : L56_6_78 (n + 1) [i + 1] [i + 1] (len [i + 1]) 1 c0 c1 c2 c3 c4 c5 c6 c9 c10 (mput KI u (i + 1) 1) m70 (gD m) rt (mput KI s (i + 1) true) = some (((), ((), ((), ([i + 1], ())))), ((c0, (c1, (c2, (c3, (c4, (c5, (c6, ((), ((), (c9, (c10, ()))))))))))), (((), ()), (mput KI u (i + 1) 1, (m70, ((gD m, (rt, ())), (((), ()), (mput KI s (i + 1) true, ())))))))) := by
     simp only [L56_6_78, f6, cond_false]
    rw [L56_6_78]
    simp only [f1, e2, f2, f3, f4, f5, f8, cond_true, Option.bind_some, Bool.not_false, Int.toNat_zero, List.nil_append]
    exact s1
   rw [L56_2_76]
   simp only [w, e1, e2, e3, e4, e0, eg, ek, cond_true, Bool.and_self, Option.bind_some, Int.toNat_zero, List.drop_zero, Nat.sub_self, List.take_zero]
   rw [big]
   exact q1
end Go.Proofs.YteknbnkjelmfaaaGreatDoor
/- Lists in lists: the events; what is computed is true. -/
namespace Go.Proofs.YteknbnkjelmfaaaGreatDoor
open Go Go.Iv Go.Gv
abbrev MkT := (List Nod × (List Int × (Int × (Int × (Int × (Bool × (Bool × (Unit × (Unit × (Int × (List Evt × Unit))))))))))) × (List (Int × Int) × (List (Int × List UInt8) × Unit))
abbrev mkSt (g : List Nod) (rt : List Int) (c2 c3 c4 : Int) (c5 c6 : Bool) (c9 : Int) (c10 : List Evt) (u : List (Int × Int)) (nm : List (Int × List UInt8)) : MkT :=
 ((g, (rt, (c2, (c3, (c4, (c5, (c6, ((), ((), (c9, (c10, ()))))))))))), (u, (nm, ())))
abbrev FrT := Nat → Int → Bool → Int → List Nod → List Int → Int → Int → Int → Bool → Bool → Int → List Evt → List (Int × Int) → List (Int × List UInt8) → Option ((Int × Unit) × MkT)
theorem L58_end (Fr : FrT) (n : Nat) (key : Bool) (deep t11 : Int) (ks : List Int) (t : Int) (ht : (ks.length : Int) ≤ t) (g : List Nod) (rt : List Int) (c2 c3 c4 : Int) (c5 c6 : Bool) (c9 : Int) (c10 : List Evt) (u : List (Int × Int)) (nm : List (Int × List UInt8)) (a0 : Int) (a1 a2 : List UInt8) (a3 : List Int) (a4 : Bool) :
  L58_6 Fr (n + 1) key deep t11 ks (len ks) t g rt c2 c3 c4 c5 c6 c9 c10 u nm a0 a1 a2 a3 a4 = some (.inl (((), (t11, ())), ((g, (rt, (c2, (c3, (c4, (c5, (c6, ((), ((), (c9, (c10, ()))))))))))), (u, (nm, ((a0, (a1, (a2, (a3, (a4, ()))))), ())))))) := by
 have e : ilt t (len ks) = false := ilt_f (by unfold len; omega)
 simp only [L58_6, e, cond_false]
theorem L58_one (Fr : FrT) (n : Nat) (deep t11 c : Int) (g : List Nod) (rt : List Int) (c2 c3 c4 : Int) (c5 c6 : Bool) (c9 : Int) (c10 : List Evt) (u : List (Int × Int)) (nm : List (Int × List UInt8)) (a1 a2 : List UInt8) (a3 : List Int) (a4 : Bool) (h0 : -1 ≤ deep) (h1 : deep ≤ 1000)
  {c9' : Int} {c10' : List Evt} (h : Fr (n + 2) c false (deep + 1) g rt c2 c3 c4 c5 c6 c9 c10 u nm = some ((0, ()), mkSt g rt c2 c3 c4 c5 c6 c9' c10' u nm)) :
  L58_6 Fr (n + 2) false deep t11 [c] (len [c]) 0 g rt c2 c3 c4 c5 c6 c9 c10 u nm 2 a1 a2 a3 a4 = some (.inl (((), (t11, ())), ((g, (rt, (c2, (c3, (c4, (c5, (c6, ((), ((), (c9', (c10', ()))))))))))), (u, (nm, ((2, (a1, (a2, (a3, (a4, ()))))), ())))))) := by
 have w : IntKind.wrap .i64 (deep + 1) = deep + 1 := wrap_id (by omega) (by omega)
 have e1 : ilt 0 (len [c]) = true := rfl
 have e2 : ile 0 (0 : Int) = true := rfl
 have e3 : ([c] : List Int)[0]? = some c := rfl
 have e4 : ((2 : Int) == 3) = false := rfl
 have e5 : ((0 : Int) != 0) = false := rfl
 have e6 : IntKind.wrap .i64 ((0 : Int) + 1) = 1 := rfl
 rw [L58_6]
 simp only [e1, e2, e3, e4, w, h, e5, e6, cond_true, cond_false, Option.bind_some, Int.toNat_zero]
 exact L58_end Fr n false deep t11 [c] 1 (by simp) g rt c2 c3 c4 c5 c6 c9' c10' u nm 2 a1 a2 a3 a4
theorem L58_err (Fr : FrT) (n : Nat) (deep t11 c : Int) (g : List Nod) (rt : List Int) (c2 c3 c4 : Int) (c5 c6 : Bool) (c9 : Int) (c10 : List Evt) (u : List (Int × Int)) (nm : List (Int × List UInt8)) (a1 a2 : List UInt8) (a3 : List Int) (a4 : Bool) (h0 : -1 ≤ deep) (h1 : deep ≤ 1000)
  {c9' : Int} {c10' : List Evt} (h : Fr (n + 2) c false (deep + 1) g rt c2 c3 c4 c5 c6 c9 c10 u nm = some ((8, ()), mkSt g rt c2 c3 c4 c5 c6 c9' c10' u nm)) :
  L58_6 Fr (n + 2) false deep t11 [c] (len [c]) 0 g rt c2 c3 c4 c5 c6 c9 c10 u nm 2 a1 a2 a3 a4 = some (.inr ((8, ()), ((g, (rt, (c2, (c3, (c4, (c5, (c6, ((), ((), (c9', (c10', ()))))))))))), (u, (nm, ((2, (a1, (a2, (a3, (a4, ()))))), ())))))) := by
 have w : IntKind.wrap .i64 (deep + 1) = deep + 1 := wrap_id (by omega) (by omega)
 have e1 : ilt 0 (len [c]) = true := rfl
 have e2 : ile 0 (0 : Int) = true := rfl
 have e3 : ([c] : List Int)[0]? = some c := rfl
 have e4 : ((2 : Int) == 3) = false := rfl
 have e5 : ((8 : Int) != 0) = true := rfl
 rw [L58_6]
 simp only [e1, e2, e3, e4, w, h, e5, cond_true, cond_false, Option.bind_some, Int.toNat_zero]
theorem elided_seq (n : Nat) : elided n 2 tagSeq = some ([], ()) := rfl
def evB (flow : Bool) (l : List Int) : Evt := (3, ([], ([], ([], (0, flow || (len l == 0))))))
def evE : Evt := (4, ([], ([], ([], (0, false)))))
theorem plan_b_seq (Fr : FrT) (n : Nat) (i : Int) (hi : 0 ≤ i) {g : List Nod} {l : List Int} (hg : g[i.toNat]? = some (2, (tagSeq, ([], (l, false))))) (deep : Int) (hd : deep ≠ 200) (rt : List Int) (c2 c3 c4 : Int) (flow c6 : Bool) (c9 : Int) (h9 : 0 ≤ c9) (h9' : c9 < 10000) (out : List Evt) (ho : out.length ≤ 10000) (u : List (Int × Int)) (hu : mgetD KI u i 0 ≤ 1) :
  plan_b Fr n i false deep g rt c2 c3 c4 flow c6 c9 out u [] = Option.bind (L58_6 Fr (n + 3) false deep 3 l (len l) 0 g rt c2 c3 c4 flow c6 (c9 + 1) (out ++ [evB flow l]) u [] 2 tagSeq [] l false) fun y => match y with
   | .inl y => bif room ((y.2.1.2.2.2.2.2.2.2.2.2.2.1.length + List.length ((IntKind.wrap .i64 (y.1.2.1 + 1), (([] : List UInt8), (([] : List UInt8), (([] : List UInt8), ((0 : Int), false))))) :: ([] : List Evt))) * 73) then
     some ((0, ()), ((y.2.1.1, (y.2.1.2.1, (y.2.1.2.2.1, (y.2.1.2.2.2.1, (y.2.1.2.2.2.2.1, (y.2.1.2.2.2.2.2.1, (y.2.1.2.2.2.2.2.2.1, ((), ((), (y.2.1.2.2.2.2.2.2.2.2.2.1, ((y.2.1.2.2.2.2.2.2.2.2.2.2.1 ++ [(IntKind.wrap .i64 (y.1.2.1 + 1), (([] : List UInt8), (([] : List UInt8), (([] : List UInt8), ((0 : Int), false)))))]), ()))))))))))), (y.2.2.1, (y.2.2.2.1, ())))) else none
   | .inr y => some ((y.1.1, ()), ((y.2.1.1, (y.2.1.2.1, (y.2.1.2.2.1, (y.2.1.2.2.2.1, (y.2.1.2.2.2.2.1, (y.2.1.2.2.2.2.2.1, (y.2.1.2.2.2.2.2.2.1, ((), ((), (y.2.1.2.2.2.2.2.2.2.2.2.1, (y.2.1.2.2.2.2.2.2.2.2.2.2.1, ()))))))))))), (y.2.2.1, (y.2.2.2.1, ())))) := by
 have e1 : mhas KI ([] : List (Int × List UInt8)) i = false := rfl
 have e2 : ile 0 i = true := ile_t hi
 have e3 : ((2 : Int) != 1) = true := rfl
 have e4 : (deep == 200) = false := by simp [hd]
 have w : IntKind.wrap .i64 (c9 + 1) = c9 + 1 := wrap_id (by omega) (by omega)
 have e5 : ilt 20000 (c9 + 1) = false := ilt_f (by omega)
 have e6 : ilt (mgetD KI u i 0) 2 = true := ilt_t (by omega)
 have e7 : ((2 : Int) == 3) = false := rfl
 have r : ∀ x : Evt, room ((out.length + List.length (x :: ([] : List Evt))) * 73) = true := fun x => room_ok (by simp; unfold roomy; omega)
 unfold plan_b
 simp only [e1, e2, hg, e3, e4, w, e5, e6, e7, cond_true, cond_false, Option.bind_some, elided_seq, r]
 cases flow with
 | true => simp only [cond_true]; rfl
 | false => simp only [cond_false]; rfl
theorem plan_deep {m : Int} (hm : m ≤ 200) (rt : List Int) (c2 c3 c4 : Int) (flow c6 : Bool) (u : List (Int × Int)) (hu : ∀ x, mgetD KI u x 0 ≤ 1) : ∀ (r d n : Nat) (i c9 : Int) (out : List Evt), 0 ≤ i → i + r + 1 = m → r < d → 3 * r + 20 ≤ n → 0 ≤ c9 → c9 + r ≤ 5000 → out.length + 2 * r ≤ 5000 →
  ∃ out', plan_d d n i false i (gD m) rt c2 c3 c4 flow c6 c9 out u [] = some ((0, ()), mkSt (gD m) rt c2 c3 c4 flow c6 (c9 + r + 1) out' u []) ∧ out'.length = out.length + 2 * (r + 1) := by
 intro r
 induction r with
 | zero =>
  intro d n i c9 out h0 h1 hd hn h2 h3 h4
  cases d with
  | zero => omega
  | succ d =>
   have eg := gD_at (m := m) h0 (by omega)
   unfold cn at eg
   rw [if_neg (by omega)] at eg
   have hb : Nat.ble 5 n = true := Nat.ble_eq_true_of_le (by omega)
   rw [plan_d, hb, cond_true, plan_b_seq (plan_d d) (n - 5) i h0 eg i (by omega) rt c2 c3 c4 flow c6 c9 h2 (by omega) out (by omega) u (hu i)]
   rw [L58_end (plan_d d) (n - 5 + 2) false i 3 [] 0 (by simp)]
   have r1 : room (((out ++ [evB flow []]).length + List.length ((IntKind.wrap .i64 ((3 : Int) + 1), (([] : List UInt8), (([] : List UInt8), (([] : List UInt8), ((0 : Int), false))))) :: ([] : List Evt))) * 73) = true := room_ok (by simp; unfold roomy; omega)
   simp only [Option.bind_some, r1, cond_true]
   refine ⟨_, by rw [show c9 + ((0 : Nat) : Int) + 1 = c9 + 1 by omega], ?_⟩
   simp
 | succ r ih =>
  intro d n i c9 out h0 h1 hd hn h2 h3 h4
  cases d with
  | zero => omega
  | succ d =>
   have eg := gD_at (m := m) h0 (by omega)
   unfold cn at eg
   rw [if_pos (by omega)] at eg
   have hb : Nat.ble 5 n = true := Nat.ble_eq_true_of_le (by omega)
   rw [plan_d, hb, cond_true, plan_b_seq (plan_d d) (n - 5) i h0 eg i (by omega) rt c2 c3 c4 flow c6 c9 h2 (by omega) out (by omega) u (hu i)]
   obtain ⟨out', q1, q2⟩ := ih d (n - 5 + 1 + 2) (i + 1) (c9 + 1) (out ++ [evB flow [i + 1]]) (by omega) (by omega) (by omega) (by omega) (by omega) (by omega) (by simp; omega)
   rw [L58_one (plan_d d) (n - 5 + 1) i 3 (i + 1) (gD m) rt c2 c3 c4 flow c6 (c9 + 1) (out ++ [evB flow [i + 1]]) u [] tagSeq [] [i + 1] false (by omega) (by omega) q1]
   simp only [List.length_append, List.length_singleton] at q2
   have r1 : room ((out'.length + List.length ((IntKind.wrap .i64 ((3 : Int) + 1), (([] : List UInt8), (([] : List UInt8), (([] : List UInt8), ((0 : Int), false))))) :: ([] : List Evt))) * 73) = true := room_ok (by simp; unfold roomy; omega)
   simp only [Option.bind_some, r1, cond_true]
   refine ⟨out' ++ [(IntKind.wrap .i64 ((3 : Int) + 1), (([] : List UInt8), (([] : List UInt8), (([] : List UInt8), ((0 : Int), false)))))], ?_, ?_⟩
   ·rw [show c9 + ((r + 1 : Nat) : Int) + 1 = c9 + 1 + r + 1 by omega]
   ·simp; omega
theorem plan_over {m : Int} (hm : 200 < m) (rt : List Int) (c2 c3 c4 : Int) (flow c6 : Bool) (u : List (Int × Int)) (hu : ∀ x, mgetD KI u x 0 ≤ 1) : ∀ (r d n : Nat) (i c9 : Int) (out : List Evt), 0 ≤ i → i + r = 200 → r < d → 3 * r + 20 ≤ n → 0 ≤ c9 → c9 + r ≤ 5000 → out.length + r ≤ 5000 →
  ∃ c9' out', plan_d d n i false i (gD m) rt c2 c3 c4 flow c6 c9 out u [] = some ((8, ()), mkSt (gD m) rt c2 c3 c4 flow c6 c9' out' u []) ∧ out'.length ≤ out.length + r := by
 intro r
 induction r with
 | zero =>
  intro d n i c9 out h0 h1 hd hn h2 h3 h4
  cases d with
  | zero => omega
  | succ d =>
   have eg := gD_at (m := m) h0 (by omega)
   unfold cn at eg
   have hi : i = 200 := by omega
   subst hi
   have hb : Nat.ble 5 n = true := Nat.ble_eq_true_of_le (by omega)
   have e1 : mhas KI ([] : List (Int × List UInt8)) 200 = false := rfl
   have e2 : ile 0 (200 : Int) = true := rfl
   have e3 : ((2 : Int) != 1) = true := rfl
   have e4 : ((200 : Int) == 200) = true := rfl
   rw [plan_d, hb, cond_true]
   unfold plan_b
   simp only [e1, e2, eg, e3, e4, cond_true, cond_false, Option.bind_some]
   exact ⟨_, _, rfl, by omega⟩
 | succ r ih =>
  intro d n i c9 out h0 h1 hd hn h2 h3 h4
  cases d with
  | zero => omega
  | succ d =>
   have eg := gD_at (m := m) h0 (by omega)
   unfold cn at eg
   rw [if_pos (by omega)] at eg
   have hb : Nat.ble 5 n = true := Nat.ble_eq_true_of_le (by omega)
   rw [plan_d, hb, cond_true, plan_b_seq (plan_d d) (n - 5) i h0 eg i (by omega) rt c2 c3 c4 flow c6 c9 h2 (by omega) out (by omega) u (hu i)]
   obtain ⟨c9', out', q1, q2⟩ := ih d (n - 5 + 1 + 2) (i + 1) (c9 + 1) (out ++ [evB flow [i + 1]]) (by omega) (by omega) (by omega) (by omega) (by omega) (by omega) (by simp; omega)
   rw [L58_err (plan_d d) (n - 5 + 1) i 3 (i + 1) (gD m) rt c2 c3 c4 flow c6 (c9 + 1) (out ++ [evB flow [i + 1]]) u [] tagSeq [] [i + 1] false (by omega) (by omega) q1]
   simp only [List.length_append, List.length_singleton] at q2
   simp only [Option.bind_some]
   exact ⟨c9', out', rfl, by omega⟩
theorem events_deep {m : Int} (h1 : 1 ≤ m) (h2 : m ≤ 230) (flow : Bool) {n : Nat} (hn : 2000 ≤ n) :
  ∃ ev e, events n (gD m, [0]) (0, (0, (0, (flow, false)))) = some (ev, (e, ())) ∧ (if 200 < m then e = 8 ∧ ev = [] else e = 0 ∧ (ev.length : Int) = 2 * m + 2) := by
 unfold events
 simp only [right_deep h1 h2 (n := n) (by omega), Option.bind_some, Bool.not_true, cond_false]
 obtain ⟨k, rfl⟩ : ∃ k, n = k + 20 := ⟨n - 20, by omega⟩
 have a1 : ilt 0 (len [(0 : Int)]) = true := rfl
 have a2 : ile 0 (0 : Int) = true := rfl
 have a3 : ([(0 : Int)])[0]? = some 0 := rfl
 have a4 : ilt 0 (0 : Int) = false := rfl
 obtain ⟨u, s, q1, q2⟩ := L56_2_deep h2 (gD m) [0] 0 0 0 flow false 0 [] [] [0] (m.toNat - 1) (k + 20 + 4 + 1) 0 (mput KI [] 0 1) (mput KI [] 0 true) (Int.le_refl _) (by omega) (by omega) (fun x => by
  rw [mgetD_mput]
  split
  ·exact ⟨by omega, by omega, fun h => by omega⟩
  ·rw [mgetD_nil]; exact ⟨by omega, by omega, fun _ => rfl⟩) (fun x hx => by rw [mgetD_mput, if_neg (by omega)]; rfl)
 have r1 : room ((List.length ([] : List Evt) + List.length (((1 : Int), (([] : List UInt8), (([] : List UInt8), (([] : List UInt8), ((0 : Int), false))))) :: ([] : List Evt))) * 73) = true := rfl
 by_cases hb : 200 < m
 ·obtain ⟨c9', out', p1, p2⟩ := plan_over hb [0] 0 0 0 flow false u q2 200 (k + 20 + 4 + 2) (k + 20 + 4 + 2) 0 0 [((1 : Int), (([] : List UInt8), (([] : List UInt8), (([] : List UInt8), ((0 : Int), false)))))] (Int.le_refl _) (by omega) (by omega) (by omega) (Int.le_refl _) (by omega) (by simp)
  have r2 : room ((out'.length + List.length (((2 : Int), (([] : List UInt8), (([] : List UInt8), (([] : List UInt8), ((0 : Int), false))))) :: ([] : List Evt))) * 73) = true := room_ok (by simp at p2 ⊢; unfold roomy; omega)
  have e5 : ((8 : Int) != 0) = true := rfl
  rw [show k + 20 + 5 = (k + 20 + 4) + 1 from rfl, L9_5]
  simp only [a1, a2, a3, a4, cond_true, cond_false, Option.bind_some, Int.toNat_zero]
  rw [q1]
  simp only [Option.bind_some, r1, cond_true, plan, List.nil_append]
  rw [p1]
  simp only [Option.bind_some, r2, e5, cond_true]
  exact ⟨_, _, rfl, by rw [if_pos hb]; exact ⟨rfl, rfl⟩⟩
 ·obtain ⟨out', p1, p2⟩ := plan_deep (m := m) (by omega) [0] 0 0 0 flow false u q2 (m.toNat - 1) (k + 20 + 4 + 2) (k + 20 + 4 + 2) 0 0 [((1 : Int), (([] : List UInt8), (([] : List UInt8), (([] : List UInt8), ((0 : Int), false)))))] (Int.le_refl _) (by omega) (by omega) (by omega) (Int.le_refl _) (by omega) (by simp; omega)
  have r2 : room ((out'.length + List.length (((2 : Int), (([] : List UInt8), (([] : List UInt8), (([] : List UInt8), ((0 : Int), false))))) :: ([] : List Evt))) * 73) = true := room_ok (by simp at p2 ⊢; unfold roomy; omega)
  have e5 : ((0 : Int) != 0) = false := rfl
  have e6 : IntKind.wrap .i64 ((0 : Int) + 1) = 1 := rfl
  have a5 : ilt 1 (len [(0 : Int)]) = false := rfl
  rw [show k + 20 + 5 = (k + 20 + 4) + 1 from rfl, L9_5]
  simp only [a1, a2, a3, a4, cond_true, cond_false, Option.bind_some, Int.toNat_zero]
  rw [q1]
  simp only [Option.bind_some, r1, cond_true, plan, List.nil_append]
  rw [p1]
  simp only [Option.bind_some, r2, e5, e6, cond_true, cond_false]
  rw [show k + 20 + 4 = (k + 20 + 3) + 1 from rfl, L9_5]
  simp only [a5, cond_false, Option.bind_some]
  refine ⟨_, _, rfl, ?_⟩
  rw [if_neg hb]
  refine ⟨rfl, ?_⟩
  simp at p2 ⊢
  omega
theorem deep_spec (n : Nat) (hn : 3000 ≤ n) (m : Int) (flow : Bool) (_w0 : Sh.wf (.int .i64) m) (_w1 : Sh.wf .bool flow) : deepL n m flow = some (true, ()) := by
 unfold deepL
 by_cases h1 : m < 1
 ·simp only [ilt_t h1, cond_true, Option.bind_some]
 ·rw [ilt_f (by omega), cond_false]
  by_cases h2 : 230 < m
  ·simp only [ilt_t h2, cond_true, Option.bind_some]
  ·have hL := L6_6_spec m flow [0] (by omega) m.toNat (n + 9) 0 [] (Int.le_refl _) (by omega) (by simp; omega) (by omega)
   obtain ⟨ev, e, q1, q2⟩ := events_deep (m := m) (by omega) (by omega) flow (n := n) (by omega)
   have hg : build m m.toNat 0 [] = gD m := rfl
   rw [hg] at hL
   have e230 : ilt 230 m = false := ilt_f (by omega)
   simp only [e230, Option.bind_some, cond_false, hL, q1]
   by_cases h3 : 200 < m
   ·rw [if_pos h3] at q2
    obtain ⟨rfl, rfl⟩ := q2
    rw [ilt_t h3, cond_true]
    rfl
   ·rw [if_neg h3] at q2
    obtain ⟨rfl, q2⟩ := q2
    have w1 : IntKind.wrap .i64 (2 * m) = 2 * m := wrap_id (by omega) (by omega)
    have w2 : IntKind.wrap .i64 (2 * m + 2) = 2 * m + 2 := wrap_id (by omega) (by omega)
    have e7 : ((0 : Int) == 0) = true := rfl
    have e200 : ilt 200 m = false := ilt_f (by omega)
    simp only [e200, cond_false, e7, cond_true, w1, w2]
    rw [show len ev = 2 * m + 2 from q2]
    simp
end Go.Proofs.YteknbnkjelmfaaaGreatDoor
/- Functions whose answers are told: by the kit's contracts. -/
namespace Go.Proofs.YteknbnkjelmfaaaGreatDoor
open Go Go.Iv Go.Gv Go.Shelf Go.Proofs
def lays171_ren : Go.Shelf.Ren := ⟨fun | 171 => 80 | 243 => 96 | 246 => 108 | 283 => 124 | 284 => 125 | 285 => 126 | 286 => 127 | 129 => 147 | 317 => 146 | 318 => 148 | 319 => 149 | 320 => 150 | 337 => 166 | 338 => 167 | n => n, fun | 3 => 3 | 9 => 9 | 2 => 2 | 4 => 4 | 171 => 135 | 0 => 0 | 53 => 128 | 37 => 96 | 5 => 5 | 173 => 138 | 212 => 150 | 51 => 151 | 20 => 20 | 213 => 152 | 46 => 123 | 232 => 179 | 233 => 180 | n => n, fun | 17 => 2 | 18 => 3 | 19 => 4 | n => n⟩
theorem lays171 : Go.Proofs.LaysM.n171 Tryz.prog lays171_ren := {
 mixed := by kernel_rfl
 f129 := Tryz.func147.trans (congrArg some (by kernel_rfl))
 f171 := Tryz.func80.trans (congrArg some (by kernel_rfl))
 f243 := Tryz.func96.trans (congrArg some (by kernel_rfl))
 f246 := Tryz.func108.trans (congrArg some (by kernel_rfl))
 f283 := Tryz.func124.trans (congrArg some (by kernel_rfl))
 f284 := Tryz.func125.trans (congrArg some (by kernel_rfl))
 f285 := Tryz.func126.trans (congrArg some (by kernel_rfl))
 f286 := Tryz.func127.trans (congrArg some (by kernel_rfl))
 f317 := Tryz.func146.trans (congrArg some (by kernel_rfl))
 f318 := Tryz.func148.trans (congrArg some (by kernel_rfl))
 f319 := Tryz.func149.trans (congrArg some (by kernel_rfl))
 f320 := Tryz.func150.trans (congrArg some (by kernel_rfl))
 f337 := Tryz.func166.trans (congrArg some (by kernel_rfl))
 f338 := Tryz.func167.trans (congrArg some (by kernel_rfl))
 t0 := Tryz.underlying0
 a0 := Tryz.isAgg0
 z0 := Tryz.sizeOf0
 v0 := Tryz.zeroValue0
 t2 := Tryz.underlying2
 a2 := Tryz.isAgg2
 z2 := Tryz.sizeOf2
 v2 := Tryz.zeroValue2
 t3 := Tryz.underlying3
 a3 := Tryz.isAgg3
 z3 := Tryz.sizeOf3
 v3 := Tryz.zeroValue3
 t4 := Tryz.underlying4
 a4 := Tryz.isAgg4
 z4 := Tryz.sizeOf4
 v4 := Tryz.zeroValue4
 t5 := Tryz.underlying5
 a5 := Tryz.isAgg5
 z5 := Tryz.sizeOf5
 v5 := Tryz.zeroValue5
 t9 := Tryz.underlying9
 a9 := Tryz.isAgg9
 z9 := Tryz.sizeOf9
 v9 := Tryz.zeroValue9
 t20 := Tryz.underlying20
 a20 := Tryz.isAgg20
 z20 := Tryz.sizeOf20
 v20 := Tryz.zeroValue20
 t37 := Tryz.underlying96
 a37 := Tryz.isAgg96
 z37 := Tryz.sizeOf96
 v37 := Tryz.zeroValue96
 t46 := Tryz.underlying123
 a46 := Tryz.isAgg123
 z46 := Tryz.sizeOf123
 v46 := Tryz.zeroValue123
 t51 := Tryz.underlying151
 a51 := Tryz.isAgg151
 z51 := Tryz.sizeOf151
 v51 := Tryz.zeroValue151
 t53 := Tryz.underlying128
 a53 := Tryz.isAgg128
 z53 := Tryz.sizeOf128
 v53 := Tryz.zeroValue128
 t171 := Tryz.underlying135
 a171 := Tryz.isAgg135
 z171 := Tryz.sizeOf135
 v171 := Tryz.zeroValue135
 t173 := Tryz.underlying138
 a173 := Tryz.isAgg138
 z173 := Tryz.sizeOf138
 v173 := Tryz.zeroValue138
 t212 := Tryz.underlying150
 a212 := Tryz.isAgg150
 z212 := Tryz.sizeOf150
 v212 := Tryz.zeroValue150
 t213 := Tryz.underlying152
 a213 := Tryz.isAgg152
 z213 := Tryz.sizeOf152
 t232 := Tryz.underlying179
 a232 := Tryz.isAgg179
 z232 := Tryz.sizeOf179
 v232 := Tryz.zeroValue179
 t233 := Tryz.underlying180
 a233 := Tryz.isAgg180
 z233 := Tryz.sizeOf180
 v233 := Tryz.zeroValue180
 g17 := by kernel_rfl
 g18 := by kernel_rfl
 g19 := by kernel_rfl
 i0 := by kernel_rfl
 i2 := by kernel_rfl
 i3 := by kernel_rfl
 i4 := by kernel_rfl
 i5 := by kernel_rfl
 i9 := by kernel_rfl
 i20 := by kernel_rfl
 i37 := by kernel_rfl
 i46 := by kernel_rfl
 i51 := by kernel_rfl
 i53 := by kernel_rfl
 i171 := by kernel_rfl
 i173 := by kernel_rfl
 i212 := by kernel_rfl
 i232 := by kernel_rfl
 i233 := by kernel_rfl
 m17 := by kernel_rfl
 m18 := by kernel_rfl
 m19 := by kernel_rfl
}
def lays196_ren : Go.Shelf.Ren := ⟨fun | 196 => 79 | 259 => 95 | n => n, fun | 9 => 9 | 4 => 4 | 3 => 3 | 5 => 5 | 12 => 12 | 119 => 119 | 0 => 0 | 46 => 123 | 139 => 122 | 138 => 121 | 53 => 128 | n => n, fun | 3 => 0 | 4 => 1 | n => n⟩
theorem lays196 : Go.Proofs.Lays.n196 Tryz.prog lays196_ren := {
 mixed := by kernel_rfl
 f196 := Tryz.func79.trans (congrArg some (by kernel_rfl))
 f259 := Tryz.func95.trans (congrArg some (by kernel_rfl))
 t0 := Tryz.underlying0
 a0 := Tryz.isAgg0
 z0 := Tryz.sizeOf0
 v0 := Tryz.zeroValue0
 t3 := Tryz.underlying3
 a3 := Tryz.isAgg3
 z3 := Tryz.sizeOf3
 v3 := Tryz.zeroValue3
 t4 := Tryz.underlying4
 a4 := Tryz.isAgg4
 z4 := Tryz.sizeOf4
 v4 := Tryz.zeroValue4
 t5 := Tryz.underlying5
 a5 := Tryz.isAgg5
 z5 := Tryz.sizeOf5
 v5 := Tryz.zeroValue5
 t9 := Tryz.underlying9
 a9 := Tryz.isAgg9
 z9 := Tryz.sizeOf9
 v9 := Tryz.zeroValue9
 t12 := Tryz.underlying12
 a12 := Tryz.isAgg12
 z12 := Tryz.sizeOf12
 v12 := Tryz.zeroValue12
 t46 := Tryz.underlying123
 a46 := Tryz.isAgg123
 z46 := Tryz.sizeOf123
 v46 := Tryz.zeroValue123
 t53 := Tryz.underlying128
 a53 := Tryz.isAgg128
 z53 := Tryz.sizeOf128
 v53 := Tryz.zeroValue128
 t119 := Tryz.underlying119
 a119 := Tryz.isAgg119
 z119 := Tryz.sizeOf119
 t138 := Tryz.underlying121
 a138 := Tryz.isAgg121
 z138 := Tryz.sizeOf121
 v138 := Tryz.zeroValue121
 t139 := Tryz.underlying122
 a139 := Tryz.isAgg122
 z139 := Tryz.sizeOf122
 v139 := Tryz.zeroValue122
 g3 := by kernel_rfl
 g4 := by kernel_rfl
}
theorem sp7 : Spec1 Tryz.prog 0 7 0 := spec_true alive_ok
theorem sp80 : Spec1 Tryz.prog 1 80 2 := spec_itoa ⟨_, _, Tryz.func80, rfl⟩ (by kernel_rfl) fun n w h0 h1 ht => Go.Proofs.Any.strconv_Itoa lays171 n h0 h1 w ht
theorem sp79 : Spec1 Tryz.prog 3 79 1 := spec_valid (g1 := 0) (g2 := 1) (by decide) ⟨_, _, Tryz.func79, rfl⟩ fun s w h1 h2 => Go.Proofs.Any.utf8_ValidString lays196 s w h1 h2
theorem specs_ok : SpecOK Tryz.prog (gspec hint) := gspec_ok (show SpecsOK Tryz.prog specL from ⟨sp7, sp80, sp79, trivial⟩)
end Go.Proofs.YteknbnkjelmfaaaGreatDoor
