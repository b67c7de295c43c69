/- Plain functions for the program's. -/
import Derived.Test.YteknbnkjelmfaaaGreatDoorFa
import Derived.Test.YteknbnkjelmfaaaGreatDoorGvSpecX
import Derived.Test.YteknbnkjelmfaaaGreatDoorGvPlain
import Derived.Test.YteknbnkjelmfaaaGreatDoorProg
import Derived.Test.YteknbnkjelmfaaaGreatDoorGs
import Derived.Test.YteknbnkjelmfaaaGreatDoorAl
set_option linter.unusedSimpArgs false
set_option linter.unusedVariables false
namespace Go.Proofs.YteknbnkjelmfaaaGreatDoor
open Go Go.Iv Go.Gv
set_option maxRecDepth 100000
set_option linter.unusedVariables false
noncomputable def L98_3_Xexit0 : Tm := ⟨[(3, .one (.all 65 3 (.int .i64) .ex))], [(64, .iter)], 65, 66, 1001⟩
noncomputable def L98_3_T : Tm := ⟨[(3, .one (.all 65 3 (.int .i64) .ex)), (7, .one (.fix (TV.ptr 64 0)))], [(64, .iter)], 65, 66, 1001⟩
noncomputable def L98_3 : Nat → (List Int) → (List UInt8) → Nat → Option (((List Int) × Unit) × (((List UInt8) × Nat) × Unit))
 | 0, _, _, _ => none
 | n + 1, t3, i64, p64 =>
 bif (Nat.blt p64 (List.length i64)) then
  bif (room (((List.length t3) + (List.length ((IntKind.wrap .i64 (((Go.Utf8.decode (ba i64) p64).1 : Nat) : Int)) :: ([] : List Int)))) * 9)) then
  L98_3 n (t3 ++ ((IntKind.wrap .i64 (((Go.Utf8.decode (ba i64) p64).1 : Nat) : Int)) :: ([] : List Int))) i64 (p64 + (Go.Utf8.decode (ba i64) p64).2)
  else none
 else
 some ((t3, ()), ((i64, p64), ()))
noncomputable def L98_3_it : LoopIt := ⟨98, 3, none, L98_3_T, [(.exit 0, L98_3_Xexit0)], 0, fun n x => L98_3 n x.1.1 x.2.1.1 x.2.1.2, []⟩
theorem L98_3_Xexit0_ok : L98_3_Xexit0.ok Tryz.prog hint := Tm.okS rfl
theorem L98_3_T_ok : L98_3_T.ok Tryz.prog hint := Tm.okS rfl
theorem L98_3_ok : ∀ n, LoopOK Tryz.prog hint shT L98_3_it n :=
 LoopOK.of (hk := fun β => (Known.mk [] []).hk β) (sh := shT) (OneLoop.of (by kernel_rfl)) L98_3_T_ok ⟨⟨L98_3_Xexit0_ok, Nat.le_refl _, Nat.le_refl _⟩, trivial⟩ (fun m => KnownOK.hook KnownOK.nil m)
  (fun _ => by kernel_rfl) (fun m x => by kernel_rfl)
noncomputable def points (n : Nat) (s : List UInt8) : Option ((List Int) × Unit) :=
 Option.bind (L98_3 (n + 1) ([] : List Int) s 0) fun y0 =>
 some (y0.1.1, ())
noncomputable def points_it : FnIt := ⟨98, [(false, .str)], [(false, (.slc (.int .i64)))], 1, fun n x => points n x.1⟩
theorem points_ok (n : Nat) : FnOK Tryz.prog hint shT points_it n :=
 FnOK.of (hk := fun β => (Known.mk [] [L98_3_it]).hk β) (sh := shT) (fun m _ => KnownOK.hook (KnownOK.nil.loop L98_3_ok L98_3_T_ok) m) (fun x => by kernel_rfl)
noncomputable def L100_2_Xexit0 : Tm := ⟨[], [], 64, 64, 1000⟩
noncomputable def L100_2_Xret : Tm := ⟨[(2, .one (.bool))], [], 64, 64, 1000⟩
noncomputable def L100_2_T : Tm := ⟨[(5, .one (.lst (.int .i64))), (6, .one (.int .i64)), (7, .one (.int .i64))], [], 64, 64, 1000⟩
noncomputable def L100_2 : Nat → (List Int) → Int → Int → Option ((Unit × Unit) ⊕ ((Bool × Unit) × Unit))
 | 0, _, _, _ => none
 | n + 1, t5, t6, t7 =>
 bif (ilt t7 t6) then
  bif (ile (0 : Int) t7) then
  Option.bind (t5[(Int.toNat t7)]?) fun x18 =>
  bif (x18 == (9 : Int)) then
  bif (x18 == (10 : Int)) then
   some (.inr ((false, ()), ()))
  else
  bif (x18 == (13 : Int)) then
   some (.inr ((false, ()), ()))
  else
  bif (x18 == (65279 : Int)) then
   some (.inr ((false, ()), ()))
  else
  L100_2 n t5 t6 (IntKind.wrap .i64 (t7 + (1 : Int)))
  else
  bif (x18 == (10 : Int)) then
  bif (x18 == (10 : Int)) then
   some (.inr ((false, ()), ()))
  else
  bif (x18 == (13 : Int)) then
   some (.inr ((false, ()), ()))
  else
  bif (x18 == (65279 : Int)) then
   some (.inr ((false, ()), ()))
  else
  L100_2 n t5 t6 (IntKind.wrap .i64 (t7 + (1 : Int)))
  else
  bif (x18 == (13 : Int)) then
  bif (x18 == (10 : Int)) then
   some (.inr ((false, ()), ()))
  else
  bif (x18 == (13 : Int)) then
   some (.inr ((false, ()), ()))
  else
  bif (x18 == (65279 : Int)) then
   some (.inr ((false, ()), ()))
  else
  L100_2 n t5 t6 (IntKind.wrap .i64 (t7 + (1 : Int)))
  else
  bif (x18 == (133 : Int)) then
  bif (x18 == (10 : Int)) then
   some (.inr ((false, ()), ()))
  else
  bif (x18 == (13 : Int)) then
   some (.inr ((false, ()), ()))
  else
  bif (x18 == (65279 : Int)) then
   some (.inr ((false, ()), ()))
  else
  L100_2 n t5 t6 (IntKind.wrap .i64 (t7 + (1 : Int)))
  else
  Option.bind (bif (ile (32 : Int) x18) then
   some (ile x18 (126 : Int))
  else
  some false) fun b20 =>
  bif b20 then
  bif (x18 == (10 : Int)) then
   some (.inr ((false, ()), ()))
  else
  bif (x18 == (13 : Int)) then
   some (.inr ((false, ()), ()))
  else
  bif (x18 == (65279 : Int)) then
   some (.inr ((false, ()), ()))
  else
  L100_2 n t5 t6 (IntKind.wrap .i64 (t7 + (1 : Int)))
  else
  Option.bind (bif (ile (160 : Int) x18) then
   some (ile x18 (55295 : Int))
  else
  some false) fun b22 =>
  bif b22 then
  bif (x18 == (10 : Int)) then
   some (.inr ((false, ()), ()))
  else
  bif (x18 == (13 : Int)) then
   some (.inr ((false, ()), ()))
  else
  bif (x18 == (65279 : Int)) then
   some (.inr ((false, ()), ()))
  else
  L100_2 n t5 t6 (IntKind.wrap .i64 (t7 + (1 : Int)))
  else
  Option.bind (bif (ile (57344 : Int) x18) then
   some (ile x18 (65533 : Int))
  else
  some false) fun b24 =>
  bif b24 then
  bif (x18 == (10 : Int)) then
   some (.inr ((false, ()), ()))
  else
  bif (x18 == (13 : Int)) then
   some (.inr ((false, ()), ()))
  else
  bif (x18 == (65279 : Int)) then
   some (.inr ((false, ()), ()))
  else
  L100_2 n t5 t6 (IntKind.wrap .i64 (t7 + (1 : Int)))
  else
  Option.bind (bif (ile (65536 : Int) x18) then
   some (ile x18 (1114111 : Int))
  else
  some false) fun b26 =>
  bif (!b26) then
  some (.inr ((false, ()), ()))
  else
  bif (x18 == (10 : Int)) then
  some (.inr ((false, ()), ()))
  else
  bif (x18 == (13 : Int)) then
  some (.inr ((false, ()), ()))
  else
  bif (x18 == (65279 : Int)) then
  some (.inr ((false, ()), ()))
  else
  L100_2 n t5 t6 (IntKind.wrap .i64 (t7 + (1 : Int)))
  else none
 else
 some (.inl ((), ()))
noncomputable def L100_2_it : LoopIt := ⟨100, 2, none, L100_2_T, [(.exit 0, L100_2_Xexit0), (.ret, L100_2_Xret)], 2, fun n x => L100_2 n x.1.1 x.1.2.1 x.1.2.2.1, []⟩
theorem L100_2_Xexit0_ok : L100_2_Xexit0.ok Tryz.prog hint := Tm.okS rfl
theorem L100_2_Xret_ok : L100_2_Xret.ok Tryz.prog hint := Tm.okS rfl
theorem L100_2_T_ok : L100_2_T.ok Tryz.prog hint := Tm.okS rfl
theorem L100_2_ok : ∀ n, LoopOK Tryz.prog hint shT L100_2_it n :=
 LoopOK.of (hk := fun β => (Known.mk [] []).hk β) (sh := shT) (OneLoop.of (by kernel_rfl)) L100_2_T_ok ⟨⟨L100_2_Xexit0_ok, Nat.le_refl _, Nat.le_refl _⟩, ⟨L100_2_Xret_ok, Nat.le_refl _, Nat.le_refl _⟩, trivial⟩ (fun m => KnownOK.hook KnownOK.nil m)
  (fun _ => by kernel_rfl) (fun m x => by kernel_rfl)
noncomputable def single (n : Nat) (l : List Int) : Option (Bool × Unit) :=
 Option.bind (L100_2 n l (len l) (0 : Int)) fun y27 =>
 match y27 with
 | .inl _ =>
  some (true, ())
 | .inr y29 =>
  some (y29.1.1, ())
noncomputable def single_it : FnIt := ⟨100, [(false, (.slc (.int .i64)))], [(false, .bool)], 2, fun n x => single n x.1⟩
theorem single_ok (n : Nat) : FnOK Tryz.prog hint shT single_it n :=
 FnOK.of (hk := fun β => (Known.mk [] [L100_2_it]).hk β) (sh := shT) (fun m _ => KnownOK.hook (KnownOK.nil.loop L100_2_ok L100_2_T_ok) m) (fun x => by kernel_rfl)
noncomputable def may (n : Nat) (style : Int) (s : List UInt8) (_flow : Bool) : Option (Bool × Unit) :=
 bif (Nat.ble (List.length s) 9223372036854775807) then
 bif (!(Go.Lib.validD s)) then
 some (false, ())
 else
 Option.bind (points (n + 1) s) fun y0 =>
 bif (style == (1 : Int)) then
 none
 else
 bif (style == (2 : Int)) then
 Option.bind (single n y0.1) fun y1 =>
 some (y1.1, ())
 else
 bif (style == (3 : Int)) then
 some (true, ())
 else
 bif (style == (4 : Int)) then
 none
 else
 bif (style == (5 : Int)) then
 none
 else
 some (false, ())
 else none
noncomputable def may_it : FnIt := ⟨82, [(false, (.int .i64)), (false, .str), (false, .bool)], [(false, .bool)], 3, fun n x => may n x.1 x.2.1 x.2.2.1⟩
theorem may_ok (n : Nat) : FnOK Tryz.prog hint shT may_it n :=
 FnOK.of (hk := fun β => (Known.mk [single_it, points_it] []).hk β) (sh := shT) (fun m _ => KnownOK.hook ((KnownOK.nil.fn points_ok).fn single_ok) m) (fun x => by kernel_rfl)
noncomputable def dflt (_n : Nat) (k : Int) : Option ((List UInt8) × Unit) :=
 bif (k == (1 : Int)) then
 some (([(116 : UInt8), (97 : UInt8), (103 : UInt8), (58 : UInt8), (121 : UInt8), (97 : UInt8), (109 : UInt8), (108 : UInt8), (46 : UInt8), (111 : UInt8), (114 : UInt8), (103 : UInt8), (44 : UInt8), (50 : UInt8), (48 : UInt8), (48 : UInt8), (50 : UInt8), (58 : UInt8), (115 : UInt8), (116 : UInt8), (114 : UInt8)] : List UInt8), ())
 else
 bif (k == (2 : Int)) then
 some (([(116 : UInt8), (97 : UInt8), (103 : UInt8), (58 : UInt8), (121 : UInt8), (97 : UInt8), (109 : UInt8), (108 : UInt8), (46 : UInt8), (111 : UInt8), (114 : UInt8), (103 : UInt8), (44 : UInt8), (50 : UInt8), (48 : UInt8), (48 : UInt8), (50 : UInt8), (58 : UInt8), (115 : UInt8), (101 : UInt8), (113 : UInt8)] : List UInt8), ())
 else
 bif (k == (3 : Int)) then
 some (([(116 : UInt8), (97 : UInt8), (103 : UInt8), (58 : UInt8), (121 : UInt8), (97 : UInt8), (109 : UInt8), (108 : UInt8), (46 : UInt8), (111 : UInt8), (114 : UInt8), (103 : UInt8), (44 : UInt8), (50 : UInt8), (48 : UInt8), (48 : UInt8), (50 : UInt8), (58 : UInt8), (109 : UInt8), (97 : UInt8), (112 : UInt8)] : List UInt8), ())
 else
 some (([] : List UInt8), ())
noncomputable def dflt_it : FnIt := ⟨97, [(false, (.int .i64))], [(false, .str)], 0, fun n x => dflt n x.1⟩
theorem dflt_ok (n : Nat) : FnOK Tryz.prog hint shT dflt_it n :=
 FnOK.of (hk := fun β => (Known.mk [] []).hk β) (sh := shT) (fun m _ => KnownOK.hook KnownOK.nil m) (fun x => by kernel_rfl)
noncomputable def elided (n : Nat) (k : Int) (s : List UInt8) : Option ((List UInt8) × Unit) :=
 Option.bind (dflt n k) fun y0 =>
 bif (s == y0.1) then
 some (([] : List UInt8), ())
 else
 some (s, ())
noncomputable def elided_it : FnIt := ⟨81, [(false, (.int .i64)), (false, .str)], [(false, .str)], 1, fun n x => elided n x.1 x.2.1⟩
theorem elided_ok (n : Nat) : FnOK Tryz.prog hint shT elided_it n :=
 FnOK.of (hk := fun β => (Known.mk [dflt_it] []).hk β) (sh := shT) (fun m _ => KnownOK.hook (KnownOK.nil.fn dflt_ok) m) (fun x => by kernel_rfl)
end Go.Proofs.YteknbnkjelmfaaaGreatDoor
/- Plain functions for the program's. -/
namespace Go.Proofs.YteknbnkjelmfaaaGreatDoor
open Go Go.Iv Go.Gv
set_option maxRecDepth 100000
set_option linter.unusedVariables false
noncomputable def plan_it0 (D : Nat) (F : Nat → argsTy [(false, (.int .i64)), (false, .bool), (false, (.int .i64))] × objTy [(64, .cells 53 [.lst sN, .lst (.int .i64), .int .i64, .int .i64, .int .i64, .bool, .bool, .fix (TV.mp 65), .fix (TV.mp 66), .int .i64, .all 67 45 sE .any] true), (65, .map 3 false false (.int .i64) (.int .i64) false), (66, .map 3 false false (.int .i64) .str false)] → Option (argsTy [(false, (.int .i64))] × objTy [(64, .cells 53 [.lst sN, .lst (.int .i64), .int .i64, .int .i64, .int .i64, .bool, .bool, .fix (TV.mp 65), .fix (TV.mp 66), .int .i64, .all 67 45 sE .any] true), (65, .map 3 false false (.int .i64) (.int .i64) false), (66, .map 3 false false (.int .i64) .str false)])) : PFn := ⟨35, [(TV.ptr 64 0)], [(false, (.int .i64)), (false, .bool), (false, (.int .i64))], [(false, (.int .i64))], 67, [(64, .cells 53 [.lst sN, .lst (.int .i64), .int .i64, .int .i64, .int .i64, .bool, .bool, .fix (TV.mp 65), .fix (TV.mp 66), .int .i64, .all 67 45 sE .any] true), (65, .map 3 false false (.int .i64) (.int .i64) false), (66, .map 3 false false (.int .i64) .str false)], 68, [(64, .cells 53 [.lst sN, .lst (.int .i64), .int .i64, .int .i64, .int .i64, .bool, .bool, .fix (TV.mp 65), .fix (TV.mp 66), .int .i64, .all 67 45 sE .any] true), (65, .map 3 false false (.int .i64) (.int .i64) false), (66, .map 3 false false (.int .i64) .str false)], 68, D, F⟩
theorem plan_Tok (D : Nat) (F) : (plan_it0 D F).T.ok Tryz.prog hint := by
 intro p hp
 simp only [plan_it0, PFn.T, List.mem_cons, List.not_mem_nil, or_false] at hp
 rcases hp with rfl | rfl | rfl
 ·trivial
 ·trivial
 ·trivial
theorem plan_T2ok (D : Nat) (F) : (plan_it0 D F).T2.ok Tryz.prog hint := by
 intro p hp
 simp only [plan_it0, PFn.T2, List.mem_cons, List.not_mem_nil, or_false] at hp
 rcases hp with rfl | rfl | rfl
 ·trivial
 ·trivial
 ·trivial
noncomputable def plan_or (Fr : Nat → Int → Bool → Int → qN → (List Int) → Int → Int → Int → Bool → Bool → Int → qE → (List (Int × Int)) → qM → Option ((Int × Unit) × ((qN × ((List Int) × (Int × (Int × (Int × (Bool × (Bool × (Unit × (Unit × (Int × (qE × Unit))))))))))) × ((List (Int × Int)) × (qM × Unit))))) : PFn := plan_it0 0 (fun n x => Fr n x.1.1 x.1.2.1 x.1.2.2.1 x.2.1.1 x.2.1.2.1 x.2.1.2.2.1 x.2.1.2.2.2.1 x.2.1.2.2.2.2.1 x.2.1.2.2.2.2.2.1 x.2.1.2.2.2.2.2.2.1 x.2.1.2.2.2.2.2.2.2.2.2.1 x.2.1.2.2.2.2.2.2.2.2.2.2.1 x.2.2.1 x.2.2.2.1)
noncomputable def L58_6_Xexit0 : Tm := ⟨[(0, .one (.fix (TV.ptr 64 0))), (11, .one (.int .i64))], [(64, .cells 53 [.lst sN, .lst (.int .i64), .int .i64, .int .i64, .int .i64, .bool, .bool, .fix (TV.mp 65), .fix (TV.mp 66), .int .i64, .all 73 45 sE .any] true), (65, .map 3 false false (.int .i64) (.int .i64) false), (66, .map 3 false false (.int .i64) .str false), (69, .cells 40 [.int .i64, .str, .str, .lst (.int .i64), .bool] true)], 73, 74, 1009⟩
noncomputable def L58_6_Xret : Tm := ⟨[(10, .one (.int .i64))], [(64, .cells 53 [.lst sN, .lst (.int .i64), .int .i64, .int .i64, .int .i64, .bool, .bool, .fix (TV.mp 65), .fix (TV.mp 66), .int .i64, .all 73 45 sE .any] true), (65, .map 3 false false (.int .i64) (.int .i64) false), (66, .map 3 false false (.int .i64) .str false), (69, .cells 40 [.int .i64, .str, .str, .lst (.int .i64), .bool] true)], 73, 74, 1009⟩
noncomputable def L58_6_T : Tm := ⟨[(0, .one (.fix (TV.ptr 64 0))), (3, .one (.bool)), (4, .one (.int .i64)), (6, .one (.fix (TV.ptr 69 0))), (11, .one (.int .i64)), (43, .one (.lst (.int .i64))), (44, .one (.int .i64)), (45, .one (.int .i64))], [(64, .cells 53 [.lst sN, .lst (.int .i64), .int .i64, .int .i64, .int .i64, .bool, .bool, .fix (TV.mp 65), .fix (TV.mp 66), .int .i64, .all 73 45 sE .any] true), (65, .map 3 false false (.int .i64) (.int .i64) false), (66, .map 3 false false (.int .i64) .str false), (69, .cells 40 [.int .i64, .str, .str, .lst (.int .i64), .bool] true)], 73, 74, 1009⟩
noncomputable def L58_6 (Fr : Nat → Int → Bool → Int → qN → (List Int) → Int → Int → Int → Bool → Bool → Int → qE → (List (Int × Int)) → qM → Option ((Int × Unit) × ((qN × ((List Int) × (Int × (Int × (Int × (Bool × (Bool × (Unit × (Unit × (Int × (qE × Unit))))))))))) × ((List (Int × Int)) × (qM × Unit))))) : Nat → Bool → Int → Int → (List Int) → Int → Int → qN → (List Int) → Int → Int → Int → Bool → Bool → Int → qE → (List (Int × Int)) → qM → Int → (List UInt8) → (List UInt8) → (List Int) → Bool → Option (((Unit × (Int × Unit)) × ((qN × ((List Int) × (Int × (Int × (Int × (Bool × (Bool × (Unit × (Unit × (Int × (qE × Unit))))))))))) × ((List (Int × Int)) × (qM × ((Int × ((List UInt8) × ((List UInt8) × ((List Int) × (Bool × Unit))))) × Unit))))) ⊕ ((Int × Unit) × ((qN × ((List Int) × (Int × (Int × (Int × (Bool × (Bool × (Unit × (Unit × (Int × (qE × Unit))))))))))) × ((List (Int × Int)) × (qM × ((Int × ((List UInt8) × ((List UInt8) × ((List Int) × (Bool × Unit))))) × Unit))))))
 | 0, _, _, _, _, _, _, _, _, _, _, _, _, _, _, _, _, _, _, _, _, _, _ => none
 | n + 1, t3, t4, t11, t43, t44, t45, c64_0, c64_1, c64_2, c64_3, c64_4, c64_5, c64_6, c64_9, c64_10, m65, m66, c69_0, c69_1, c69_2, c69_3, c69_4 =>
 bif (ilt t45 t44) then
  bif (ile (0 : Int) t45) then
  Option.bind (t43[(Int.toNat t45)]?) fun x12 =>
  bif t3 then
  Option.bind (Fr (n + 1) x12 true (IntKind.wrap .i64 (t4 + (1 : Int))) c64_0 c64_1 c64_2 c64_3 c64_4 c64_5 c64_6 c64_9 c64_10 m65 m66) fun y13 =>
  bif (y13.1.1 != (0 : Int)) then
   some (.inr ((y13.1.1, ()), ((y13.2.1.1, (y13.2.1.2.1, (y13.2.1.2.2.1, (y13.2.1.2.2.2.1, (y13.2.1.2.2.2.2.1, (y13.2.1.2.2.2.2.2.1, (y13.2.1.2.2.2.2.2.2.1, ((), ((), (y13.2.1.2.2.2.2.2.2.2.2.2.1, (y13.2.1.2.2.2.2.2.2.2.2.2.2.1, ()))))))))))), (y13.2.2.1, (y13.2.2.2.1, ((c69_0, (c69_1, (c69_2, (c69_3, (c69_4, ()))))), ()))))))
  else
  L58_6 Fr n t3 t4 t11 t43 t44 (IntKind.wrap .i64 (t45 + (1 : Int))) y13.2.1.1 y13.2.1.2.1 y13.2.1.2.2.1 y13.2.1.2.2.2.1 y13.2.1.2.2.2.2.1 y13.2.1.2.2.2.2.2.1 y13.2.1.2.2.2.2.2.2.1 y13.2.1.2.2.2.2.2.2.2.2.2.1 y13.2.1.2.2.2.2.2.2.2.2.2.2.1 y13.2.2.1 y13.2.2.2.1 c69_0 c69_1 c69_2 c69_3 c69_4
  else
  bif (c69_0 == (3 : Int)) then
  Option.bind (Fr (n + 1) x12 ((Int.tmod t45 (2 : Int)) == (0 : Int)) (IntKind.wrap .i64 (t4 + (1 : Int))) c64_0 c64_1 c64_2 c64_3 c64_4 c64_5 c64_6 c64_9 c64_10 m65 m66) fun y14 =>
  bif (y14.1.1 != (0 : Int)) then
   some (.inr ((y14.1.1, ()), ((y14.2.1.1, (y14.2.1.2.1, (y14.2.1.2.2.1, (y14.2.1.2.2.2.1, (y14.2.1.2.2.2.2.1, (y14.2.1.2.2.2.2.2.1, (y14.2.1.2.2.2.2.2.2.1, ((), ((), (y14.2.1.2.2.2.2.2.2.2.2.2.1, (y14.2.1.2.2.2.2.2.2.2.2.2.2.1, ()))))))))))), (y14.2.2.1, (y14.2.2.2.1, ((c69_0, (c69_1, (c69_2, (c69_3, (c69_4, ()))))), ()))))))
  else
  L58_6 Fr n t3 t4 t11 t43 t44 (IntKind.wrap .i64 (t45 + (1 : Int))) y14.2.1.1 y14.2.1.2.1 y14.2.1.2.2.1 y14.2.1.2.2.2.1 y14.2.1.2.2.2.2.1 y14.2.1.2.2.2.2.2.1 y14.2.1.2.2.2.2.2.2.1 y14.2.1.2.2.2.2.2.2.2.2.2.1 y14.2.1.2.2.2.2.2.2.2.2.2.2.1 y14.2.2.1 y14.2.2.2.1 c69_0 c69_1 c69_2 c69_3 c69_4
  else
  Option.bind (Fr (n + 1) x12 false (IntKind.wrap .i64 (t4 + (1 : Int))) c64_0 c64_1 c64_2 c64_3 c64_4 c64_5 c64_6 c64_9 c64_10 m65 m66) fun y15 =>
  bif (y15.1.1 != (0 : Int)) then
  some (.inr ((y15.1.1, ()), ((y15.2.1.1, (y15.2.1.2.1, (y15.2.1.2.2.1, (y15.2.1.2.2.2.1, (y15.2.1.2.2.2.2.1, (y15.2.1.2.2.2.2.2.1, (y15.2.1.2.2.2.2.2.2.1, ((), ((), (y15.2.1.2.2.2.2.2.2.2.2.2.1, (y15.2.1.2.2.2.2.2.2.2.2.2.2.1, ()))))))))))), (y15.2.2.1, (y15.2.2.2.1, ((c69_0, (c69_1, (c69_2, (c69_3, (c69_4, ()))))), ()))))))
  else
  L58_6 Fr n t3 t4 t11 t43 t44 (IntKind.wrap .i64 (t45 + (1 : Int))) y15.2.1.1 y15.2.1.2.1 y15.2.1.2.2.1 y15.2.1.2.2.2.1 y15.2.1.2.2.2.2.1 y15.2.1.2.2.2.2.2.1 y15.2.1.2.2.2.2.2.2.1 y15.2.1.2.2.2.2.2.2.2.2.2.1 y15.2.1.2.2.2.2.2.2.2.2.2.2.1 y15.2.2.1 y15.2.2.2.1 c69_0 c69_1 c69_2 c69_3 c69_4
  else none
 else
 some (.inl (((), (t11, ())), ((c64_0, (c64_1, (c64_2, (c64_3, (c64_4, (c64_5, (c64_6, ((), ((), (c64_9, (c64_10, ()))))))))))), (m65, (m66, ((c69_0, (c69_1, (c69_2, (c69_3, (c69_4, ()))))), ()))))))
noncomputable def L58_6_it (Fr : Nat → Int → Bool → Int → qN → (List Int) → Int → Int → Int → Bool → Bool → Int → qE → (List (Int × Int)) → qM → Option ((Int × Unit) × ((qN × ((List Int) × (Int × (Int × (Int × (Bool × (Bool × (Unit × (Unit × (Int × (qE × Unit))))))))))) × ((List (Int × Int)) × (qM × Unit))))) : LoopIt := ⟨58, 6, none, L58_6_T, [(.exit 0, L58_6_Xexit0), (.ret, L58_6_Xret)], 1, fun n x => L58_6 Fr n x.1.2.1 x.1.2.2.1 x.1.2.2.2.2.1 x.1.2.2.2.2.2.1 x.1.2.2.2.2.2.2.1 x.1.2.2.2.2.2.2.2.1 x.2.1.1 x.2.1.2.1 x.2.1.2.2.1 x.2.1.2.2.2.1 x.2.1.2.2.2.2.1 x.2.1.2.2.2.2.2.1 x.2.1.2.2.2.2.2.2.1 x.2.1.2.2.2.2.2.2.2.2.2.1 x.2.1.2.2.2.2.2.2.2.2.2.2.1 x.2.2.1 x.2.2.2.1 x.2.2.2.2.1.1 x.2.2.2.2.1.2.1 x.2.2.2.2.1.2.2.1 x.2.2.2.2.1.2.2.2.1 x.2.2.2.2.1.2.2.2.2.1, [68, 70, 71]⟩
theorem L58_6_Xexit0_ok : L58_6_Xexit0.ok Tryz.prog hint := Tm.okS rfl
theorem L58_6_Xret_ok : L58_6_Xret.ok Tryz.prog hint := Tm.okS rfl
theorem L58_6_T_ok : L58_6_T.ok Tryz.prog hint := Tm.okS rfl
theorem L58_6_ok (Fr : Nat → Int → Bool → Int → qN → (List Int) → Int → Int → Int → Bool → Bool → Int → qE → (List (Int × Int)) → qM → Option ((Int × Unit) × ((qN × ((List Int) × (Int × (Int × (Int × (Bool × (Bool × (Unit × (Unit × (Int × (qE × Unit))))))))))) × ((List (Int × Int)) × (qM × Unit))))) (hFr : ∀ m, PFnOK Tryz.prog hint shT (plan_or Fr) m) : ∀ n, LoopOK Tryz.prog hint shT (L58_6_it Fr) n :=
 LoopOK.of (hk := fun β => (Known.mk [] []).hkP [(plan_or Fr)] β) (sh := shT) (OneLoop.of (by kernel_rfl)) L58_6_T_ok ⟨⟨L58_6_Xexit0_ok, Nat.le_refl _, Nat.le_refl _⟩, ⟨L58_6_Xret_ok, Nat.le_refl _, Nat.le_refl _⟩, trivial⟩ (fun m => KnownOK.hookP KnownOK.nil (KnownP.nil.fn hFr (plan_Tok _ _)) m)
  (fun _ => by kernel_rfl) (fun m x => by kernel_rfl)
noncomputable def plan_b (Fr : Nat → Int → Bool → Int → qN → (List Int) → Int → Int → Int → Bool → Bool → Int → qE → (List (Int × Int)) → qM → Option ((Int × Unit) × ((qN × ((List Int) × (Int × (Int × (Int × (Bool × (Bool × (Unit × (Unit × (Int × (qE × Unit))))))))))) × ((List (Int × Int)) × (qM × Unit))))) (n : Nat) (i : Int) (key : Bool) (deep : Int) (c64_0 : qN) (c64_1 : (List Int)) (c64_2 : Int) (c64_3 : Int) (c64_4 : Int) (c64_5 : Bool) (c64_6 : Bool) (c64_9 : Int) (c64_10 : qE) (m65 : (List (Int × Int))) (m66 : qM) : Option ((Int × Unit) × ((qN × ((List Int) × (Int × (Int × (Int × (Bool × (Bool × (Unit × (Unit × (Int × (qE × Unit))))))))))) × ((List (Int × Int)) × (qM × Unit)))) :=
 bif (mhas kI m66 i) then
 bif (room (((List.length c64_10) + (List.length (((8 : Int), (([] : List UInt8), (([] : List UInt8), ((mgetD kI m66 i ([] : List UInt8)), ((0 : Int), false))))) :: []))) * 73)) then
 some (((0 : Int), ()), ((c64_0, (c64_1, (c64_2, (c64_3, (c64_4, (c64_5, (c64_6, ((), ((), (c64_9, ((c64_10 ++ (((8 : Int), (([] : List UInt8), (([] : List UInt8), ((mgetD kI m66 i ([] : List UInt8)), ((0 : Int), false))))) :: [])), ()))))))))))), (m65, (m66, ()))))
 else none
 else
 bif (ile (0 : Int) i) then
 Option.bind (c64_0[(Int.toNat i)]?) fun x0 =>
 Option.bind (bif (x0.1 != (1 : Int)) then
  some (deep == (200 : Int))
 else
 some false) fun b2 =>
 bif b2 then
 some (((8 : Int), ()), ((c64_0, (c64_1, (c64_2, (c64_3, (c64_4, (c64_5, (c64_6, ((), ((), (c64_9, (c64_10, ()))))))))))), (m65, (m66, ()))))
 else
 bif (ilt (20000 : Int) (IntKind.wrap .i64 (c64_9 + (1 : Int)))) then
 some (((9 : Int), ()), ((c64_0, (c64_1, (c64_2, (c64_3, (c64_4, (c64_5, (c64_6, ((), ((), ((IntKind.wrap .i64 (c64_9 + (1 : Int))), (c64_10, ()))))))))))), (m65, (m66, ()))))
 else
 bif (ilt (mgetD kI m65 i (0 : Int)) (2 : Int)) then
 bif (x0.1 != (1 : Int)) then
  bif (x0.1 == (3 : Int)) then
  Option.bind (elided (n + 2) x0.1 x0.2.1) fun y3 =>
  bif c64_5 then
   bif (room (((List.length c64_10) + (List.length (((5 : Int), (([] : List UInt8), (y3.1, (([] : List UInt8), ((0 : Int), true))))) :: []))) * 73)) then
   Option.bind (L58_6 Fr (n + 3) key deep (5 : Int) x0.2.2.2.1 (len x0.2.2.2.1) (0 : Int) c64_0 c64_1 c64_2 c64_3 c64_4 c64_5 c64_6 (IntKind.wrap .i64 (c64_9 + (1 : Int))) (c64_10 ++ (((5 : Int), (([] : List UInt8), (y3.1, (([] : List UInt8), ((0 : Int), true))))) :: [])) m65 m66 x0.1 x0.2.1 x0.2.2.1 x0.2.2.2.1 x0.2.2.2.2) fun y16 =>
   match y16 with
   | .inl y17 =>
    bif (room (((List.length y17.2.1.2.2.2.2.2.2.2.2.2.2.1) + (List.length (((IntKind.wrap .i64 (y17.1.2.1 + (1 : Int))), (([] : List UInt8), (([] : List UInt8), (([] : List UInt8), ((0 : Int), false))))) :: []))) * 73)) then
    some (((0 : Int), ()), ((y17.2.1.1, (y17.2.1.2.1, (y17.2.1.2.2.1, (y17.2.1.2.2.2.1, (y17.2.1.2.2.2.2.1, (y17.2.1.2.2.2.2.2.1, (y17.2.1.2.2.2.2.2.2.1, ((), ((), (y17.2.1.2.2.2.2.2.2.2.2.2.1, ((y17.2.1.2.2.2.2.2.2.2.2.2.2.1 ++ (((IntKind.wrap .i64 (y17.1.2.1 + (1 : Int))), (([] : List UInt8), (([] : List UInt8), (([] : List UInt8), ((0 : Int), false))))) :: [])), ()))))))))))), (y17.2.2.1, (y17.2.2.2.1, ()))))
    else none
   | .inr y18 =>
    some ((y18.1.1, ()), ((y18.2.1.1, (y18.2.1.2.1, (y18.2.1.2.2.1, (y18.2.1.2.2.2.1, (y18.2.1.2.2.2.2.1, (y18.2.1.2.2.2.2.2.1, (y18.2.1.2.2.2.2.2.2.1, ((), ((), (y18.2.1.2.2.2.2.2.2.2.2.2.1, (y18.2.1.2.2.2.2.2.2.2.2.2.2.1, ()))))))))))), (y18.2.2.1, (y18.2.2.2.1, ()))))
   else none
  else
  bif key then
   bif (room (((List.length c64_10) + (List.length (((5 : Int), (([] : List UInt8), (y3.1, (([] : List UInt8), ((0 : Int), true))))) :: []))) * 73)) then
   Option.bind (L58_6 Fr (n + 3) key deep (5 : Int) x0.2.2.2.1 (len x0.2.2.2.1) (0 : Int) c64_0 c64_1 c64_2 c64_3 c64_4 c64_5 c64_6 (IntKind.wrap .i64 (c64_9 + (1 : Int))) (c64_10 ++ (((5 : Int), (([] : List UInt8), (y3.1, (([] : List UInt8), ((0 : Int), true))))) :: [])) m65 m66 x0.1 x0.2.1 x0.2.2.1 x0.2.2.2.1 x0.2.2.2.2) fun y19 =>
   match y19 with
   | .inl y20 =>
    bif (room (((List.length y20.2.1.2.2.2.2.2.2.2.2.2.2.1) + (List.length (((IntKind.wrap .i64 (y20.1.2.1 + (1 : Int))), (([] : List UInt8), (([] : List UInt8), (([] : List UInt8), ((0 : Int), false))))) :: []))) * 73)) then
    some (((0 : Int), ()), ((y20.2.1.1, (y20.2.1.2.1, (y20.2.1.2.2.1, (y20.2.1.2.2.2.1, (y20.2.1.2.2.2.2.1, (y20.2.1.2.2.2.2.2.1, (y20.2.1.2.2.2.2.2.2.1, ((), ((), (y20.2.1.2.2.2.2.2.2.2.2.2.1, ((y20.2.1.2.2.2.2.2.2.2.2.2.2.1 ++ (((IntKind.wrap .i64 (y20.1.2.1 + (1 : Int))), (([] : List UInt8), (([] : List UInt8), (([] : List UInt8), ((0 : Int), false))))) :: [])), ()))))))))))), (y20.2.2.1, (y20.2.2.2.1, ()))))
    else none
   | .inr y21 =>
    some ((y21.1.1, ()), ((y21.2.1.1, (y21.2.1.2.1, (y21.2.1.2.2.1, (y21.2.1.2.2.2.1, (y21.2.1.2.2.2.2.1, (y21.2.1.2.2.2.2.2.1, (y21.2.1.2.2.2.2.2.2.1, ((), ((), (y21.2.1.2.2.2.2.2.2.2.2.2.1, (y21.2.1.2.2.2.2.2.2.2.2.2.2.1, ()))))))))))), (y21.2.2.1, (y21.2.2.2.1, ()))))
   else none
  else
  bif (room (((List.length c64_10) + (List.length (((5 : Int), (([] : List UInt8), (y3.1, (([] : List UInt8), ((0 : Int), ((len x0.2.2.2.1) == (0 : Int))))))) :: []))) * 73)) then
  Option.bind (L58_6 Fr (n + 3) key deep (5 : Int) x0.2.2.2.1 (len x0.2.2.2.1) (0 : Int) c64_0 c64_1 c64_2 c64_3 c64_4 c64_5 c64_6 (IntKind.wrap .i64 (c64_9 + (1 : Int))) (c64_10 ++ (((5 : Int), (([] : List UInt8), (y3.1, (([] : List UInt8), ((0 : Int), ((len x0.2.2.2.1) == (0 : Int))))))) :: [])) m65 m66 x0.1 x0.2.1 x0.2.2.1 x0.2.2.2.1 x0.2.2.2.2) fun y22 =>
  match y22 with
   | .inl y23 =>
   bif (room (((List.length y23.2.1.2.2.2.2.2.2.2.2.2.2.1) + (List.length (((IntKind.wrap .i64 (y23.1.2.1 + (1 : Int))), (([] : List UInt8), (([] : List UInt8), (([] : List UInt8), ((0 : Int), false))))) :: []))) * 73)) then
   some (((0 : Int), ()), ((y23.2.1.1, (y23.2.1.2.1, (y23.2.1.2.2.1, (y23.2.1.2.2.2.1, (y23.2.1.2.2.2.2.1, (y23.2.1.2.2.2.2.2.1, (y23.2.1.2.2.2.2.2.2.1, ((), ((), (y23.2.1.2.2.2.2.2.2.2.2.2.1, ((y23.2.1.2.2.2.2.2.2.2.2.2.2.1 ++ (((IntKind.wrap .i64 (y23.1.2.1 + (1 : Int))), (([] : List UInt8), (([] : List UInt8), (([] : List UInt8), ((0 : Int), false))))) :: [])), ()))))))))))), (y23.2.2.1, (y23.2.2.2.1, ()))))
   else none
   | .inr y24 =>
   some ((y24.1.1, ()), ((y24.2.1.1, (y24.2.1.2.1, (y24.2.1.2.2.1, (y24.2.1.2.2.2.1, (y24.2.1.2.2.2.2.1, (y24.2.1.2.2.2.2.2.1, (y24.2.1.2.2.2.2.2.2.1, ((), ((), (y24.2.1.2.2.2.2.2.2.2.2.2.1, (y24.2.1.2.2.2.2.2.2.2.2.2.2.1, ()))))))))))), (y24.2.2.1, (y24.2.2.2.1, ()))))
  else none
  else
  Option.bind (elided (n + 2) x0.1 x0.2.1) fun y25 =>
  bif c64_5 then
  bif (room (((List.length c64_10) + (List.length (((3 : Int), (([] : List UInt8), (y25.1, (([] : List UInt8), ((0 : Int), true))))) :: []))) * 73)) then
  Option.bind (L58_6 Fr (n + 3) key deep (3 : Int) x0.2.2.2.1 (len x0.2.2.2.1) (0 : Int) c64_0 c64_1 c64_2 c64_3 c64_4 c64_5 c64_6 (IntKind.wrap .i64 (c64_9 + (1 : Int))) (c64_10 ++ (((3 : Int), (([] : List UInt8), (y25.1, (([] : List UInt8), ((0 : Int), true))))) :: [])) m65 m66 x0.1 x0.2.1 x0.2.2.1 x0.2.2.2.1 x0.2.2.2.2) fun y26 =>
  match y26 with
   | .inl y27 =>
   bif (room (((List.length y27.2.1.2.2.2.2.2.2.2.2.2.2.1) + (List.length (((IntKind.wrap .i64 (y27.1.2.1 + (1 : Int))), (([] : List UInt8), (([] : List UInt8), (([] : List UInt8), ((0 : Int), false))))) :: []))) * 73)) then
   some (((0 : Int), ()), ((y27.2.1.1, (y27.2.1.2.1, (y27.2.1.2.2.1, (y27.2.1.2.2.2.1, (y27.2.1.2.2.2.2.1, (y27.2.1.2.2.2.2.2.1, (y27.2.1.2.2.2.2.2.2.1, ((), ((), (y27.2.1.2.2.2.2.2.2.2.2.2.1, ((y27.2.1.2.2.2.2.2.2.2.2.2.2.1 ++ (((IntKind.wrap .i64 (y27.1.2.1 + (1 : Int))), (([] : List UInt8), (([] : List UInt8), (([] : List UInt8), ((0 : Int), false))))) :: [])), ()))))))))))), (y27.2.2.1, (y27.2.2.2.1, ()))))
   else none
   | .inr y28 =>
   some ((y28.1.1, ()), ((y28.2.1.1, (y28.2.1.2.1, (y28.2.1.2.2.1, (y28.2.1.2.2.2.1, (y28.2.1.2.2.2.2.1, (y28.2.1.2.2.2.2.2.1, (y28.2.1.2.2.2.2.2.2.1, ((), ((), (y28.2.1.2.2.2.2.2.2.2.2.2.1, (y28.2.1.2.2.2.2.2.2.2.2.2.2.1, ()))))))))))), (y28.2.2.1, (y28.2.2.2.1, ()))))
  else none
  else
  bif key then
  bif (room (((List.length c64_10) + (List.length (((3 : Int), (([] : List UInt8), (y25.1, (([] : List UInt8), ((0 : Int), true))))) :: []))) * 73)) then
  Option.bind (L58_6 Fr (n + 3) key deep (3 : Int) x0.2.2.2.1 (len x0.2.2.2.1) (0 : Int) c64_0 c64_1 c64_2 c64_3 c64_4 c64_5 c64_6 (IntKind.wrap .i64 (c64_9 + (1 : Int))) (c64_10 ++ (((3 : Int), (([] : List UInt8), (y25.1, (([] : List UInt8), ((0 : Int), true))))) :: [])) m65 m66 x0.1 x0.2.1 x0.2.2.1 x0.2.2.2.1 x0.2.2.2.2) fun y29 =>
  match y29 with
   | .inl y30 =>
   bif (room (((List.length y30.2.1.2.2.2.2.2.2.2.2.2.2.1) + (List.length (((IntKind.wrap .i64 (y30.1.2.1 + (1 : Int))), (([] : List UInt8), (([] : List UInt8), (([] : List UInt8), ((0 : Int), false))))) :: []))) * 73)) then
   some (((0 : Int), ()), ((y30.2.1.1, (y30.2.1.2.1, (y30.2.1.2.2.1, (y30.2.1.2.2.2.1, (y30.2.1.2.2.2.2.1, (y30.2.1.2.2.2.2.2.1, (y30.2.1.2.2.2.2.2.2.1, ((), ((), (y30.2.1.2.2.2.2.2.2.2.2.2.1, ((y30.2.1.2.2.2.2.2.2.2.2.2.2.1 ++ (((IntKind.wrap .i64 (y30.1.2.1 + (1 : Int))), (([] : List UInt8), (([] : List UInt8), (([] : List UInt8), ((0 : Int), false))))) :: [])), ()))))))))))), (y30.2.2.1, (y30.2.2.2.1, ()))))
   else none
   | .inr y31 =>
   some ((y31.1.1, ()), ((y31.2.1.1, (y31.2.1.2.1, (y31.2.1.2.2.1, (y31.2.1.2.2.2.1, (y31.2.1.2.2.2.2.1, (y31.2.1.2.2.2.2.2.1, (y31.2.1.2.2.2.2.2.2.1, ((), ((), (y31.2.1.2.2.2.2.2.2.2.2.2.1, (y31.2.1.2.2.2.2.2.2.2.2.2.2.1, ()))))))))))), (y31.2.2.1, (y31.2.2.2.1, ()))))
  else none
  else
  bif (room (((List.length c64_10) + (List.length (((3 : Int), (([] : List UInt8), (y25.1, (([] : List UInt8), ((0 : Int), ((len x0.2.2.2.1) == (0 : Int))))))) :: []))) * 73)) then
  Option.bind (L58_6 Fr (n + 3) key deep (3 : Int) x0.2.2.2.1 (len x0.2.2.2.1) (0 : Int) c64_0 c64_1 c64_2 c64_3 c64_4 c64_5 c64_6 (IntKind.wrap .i64 (c64_9 + (1 : Int))) (c64_10 ++ (((3 : Int), (([] : List UInt8), (y25.1, (([] : List UInt8), ((0 : Int), ((len x0.2.2.2.1) == (0 : Int))))))) :: [])) m65 m66 x0.1 x0.2.1 x0.2.2.1 x0.2.2.2.1 x0.2.2.2.2) fun y32 =>
  match y32 with
  | .inl y33 =>
   bif (room (((List.length y33.2.1.2.2.2.2.2.2.2.2.2.2.1) + (List.length (((IntKind.wrap .i64 (y33.1.2.1 + (1 : Int))), (([] : List UInt8), (([] : List UInt8), (([] : List UInt8), ((0 : Int), false))))) :: []))) * 73)) then
   some (((0 : Int), ()), ((y33.2.1.1, (y33.2.1.2.1, (y33.2.1.2.2.1, (y33.2.1.2.2.2.1, (y33.2.1.2.2.2.2.1, (y33.2.1.2.2.2.2.2.1, (y33.2.1.2.2.2.2.2.2.1, ((), ((), (y33.2.1.2.2.2.2.2.2.2.2.2.1, ((y33.2.1.2.2.2.2.2.2.2.2.2.2.1 ++ (((IntKind.wrap .i64 (y33.1.2.1 + (1 : Int))), (([] : List UInt8), (([] : List UInt8), (([] : List UInt8), ((0 : Int), false))))) :: [])), ()))))))))))), (y33.2.2.1, (y33.2.2.2.1, ()))))
   else none
  | .inr y34 =>
   some ((y34.1.1, ()), ((y34.2.1.1, (y34.2.1.2.1, (y34.2.1.2.2.1, (y34.2.1.2.2.2.1, (y34.2.1.2.2.2.2.1, (y34.2.1.2.2.2.2.2.1, (y34.2.1.2.2.2.2.2.2.1, ((), ((), (y34.2.1.2.2.2.2.2.2.2.2.2.1, (y34.2.1.2.2.2.2.2.2.2.2.2.2.1, ()))))))))))), (y34.2.2.1, (y34.2.2.2.1, ()))))
  else none
 else
 bif c64_5 then
  Option.bind (may n c64_4 x0.2.2.1 true) fun y35 =>
  bif (!y35.1) then
  Option.bind (elided (n + 2) x0.1 x0.2.1) fun y36 =>
  bif (room (((List.length c64_10) + (List.length (((7 : Int), (x0.2.2.1, (y36.1, (([] : List UInt8), ((3 : Int), false))))) :: []))) * 73)) then
  some (((0 : Int), ()), ((c64_0, (c64_1, (c64_2, (c64_3, (c64_4, (c64_5, (c64_6, ((), ((), ((IntKind.wrap .i64 (c64_9 + (1 : Int))), ((c64_10 ++ (((7 : Int), (x0.2.2.1, (y36.1, (([] : List UInt8), ((3 : Int), false))))) :: [])), ()))))))))))), (m65, (m66, ()))))
  else none
  else
  Option.bind (elided (n + 2) x0.1 x0.2.1) fun y37 =>
  bif (c64_4 != (1 : Int)) then
  bif (room (((List.length c64_10) + (List.length (((7 : Int), (x0.2.2.1, (y37.1, (([] : List UInt8), (c64_4, false))))) :: []))) * 73)) then
  some (((0 : Int), ()), ((c64_0, (c64_1, (c64_2, (c64_3, (c64_4, (c64_5, (c64_6, ((), ((), ((IntKind.wrap .i64 (c64_9 + (1 : Int))), ((c64_10 ++ (((7 : Int), (x0.2.2.1, (y37.1, (([] : List UInt8), (c64_4, false))))) :: [])), ()))))))))))), (m65, (m66, ()))))
  else none
  else
  none
 else
 Option.bind (may n c64_4 x0.2.2.1 key) fun y38 =>
 bif (!y38.1) then
  Option.bind (elided (n + 2) x0.1 x0.2.1) fun y39 =>
  bif (room (((List.length c64_10) + (List.length (((7 : Int), (x0.2.2.1, (y39.1, (([] : List UInt8), ((3 : Int), false))))) :: []))) * 73)) then
  some (((0 : Int), ()), ((c64_0, (c64_1, (c64_2, (c64_3, (c64_4, (c64_5, (c64_6, ((), ((), ((IntKind.wrap .i64 (c64_9 + (1 : Int))), ((c64_10 ++ (((7 : Int), (x0.2.2.1, (y39.1, (([] : List UInt8), ((3 : Int), false))))) :: [])), ()))))))))))), (m65, (m66, ()))))
  else none
 else
 Option.bind (elided (n + 2) x0.1 x0.2.1) fun y40 =>
 bif (c64_4 != (1 : Int)) then
  bif (room (((List.length c64_10) + (List.length (((7 : Int), (x0.2.2.1, (y40.1, (([] : List UInt8), (c64_4, false))))) :: []))) * 73)) then
  some (((0 : Int), ()), ((c64_0, (c64_1, (c64_2, (c64_3, (c64_4, (c64_5, (c64_6, ((), ((), ((IntKind.wrap .i64 (c64_9 + (1 : Int))), ((c64_10 ++ (((7 : Int), (x0.2.2.1, (y40.1, (([] : List UInt8), (c64_4, false))))) :: [])), ()))))))))))), (m65, (m66, ()))))
  else none
 else
 none
 else
 bif (in64 (IntKind.wrap .i64 ((len m66) + (1 : Int)))) then
 bif (room ((List.length ([(97 : UInt8)] : List UInt8)) + (List.length (Go.Lib.itoa (IntKind.wrap .i64 ((len m66) + (1 : Int))))))) then
 bif (x0.1 != (1 : Int)) then
 bif (x0.1 == (3 : Int)) then
  Option.bind (elided (n + 2) x0.1 x0.2.1) fun y41 =>
  bif c64_5 then
  bif (room (((List.length c64_10) + (List.length (((5 : Int), (([] : List UInt8), (y41.1, ((mgetD kI (mput kI m66 i (([(97 : UInt8)] : List UInt8) ++ (Go.Lib.itoa (IntKind.wrap .i64 ((len m66) + (1 : Int)))))) i ([] : List UInt8)), ((0 : Int), true))))) :: []))) * 73)) then
  Option.bind (L58_6 Fr (n + 3) key deep (5 : Int) x0.2.2.2.1 (len x0.2.2.2.1) (0 : Int) c64_0 c64_1 c64_2 c64_3 c64_4 c64_5 c64_6 (IntKind.wrap .i64 (c64_9 + (1 : Int))) (c64_10 ++ (((5 : Int), (([] : List UInt8), (y41.1, ((mgetD kI (mput kI m66 i (([(97 : UInt8)] : List UInt8) ++ (Go.Lib.itoa (IntKind.wrap .i64 ((len m66) + (1 : Int)))))) i ([] : List UInt8)), ((0 : Int), true))))) :: [])) m65 (mput kI m66 i (([(97 : UInt8)] : List UInt8) ++ (Go.Lib.itoa (IntKind.wrap .i64 ((len m66) + (1 : Int)))))) x0.1 x0.2.1 x0.2.2.1 x0.2.2.2.1 x0.2.2.2.2) fun y42 =>
  match y42 with
   | .inl y43 =>
   bif (room (((List.length y43.2.1.2.2.2.2.2.2.2.2.2.2.1) + (List.length (((IntKind.wrap .i64 (y43.1.2.1 + (1 : Int))), (([] : List UInt8), (([] : List UInt8), (([] : List UInt8), ((0 : Int), false))))) :: []))) * 73)) then
   some (((0 : Int), ()), ((y43.2.1.1, (y43.2.1.2.1, (y43.2.1.2.2.1, (y43.2.1.2.2.2.1, (y43.2.1.2.2.2.2.1, (y43.2.1.2.2.2.2.2.1, (y43.2.1.2.2.2.2.2.2.1, ((), ((), (y43.2.1.2.2.2.2.2.2.2.2.2.1, ((y43.2.1.2.2.2.2.2.2.2.2.2.2.1 ++ (((IntKind.wrap .i64 (y43.1.2.1 + (1 : Int))), (([] : List UInt8), (([] : List UInt8), (([] : List UInt8), ((0 : Int), false))))) :: [])), ()))))))))))), (y43.2.2.1, (y43.2.2.2.1, ()))))
   else none
   | .inr y44 =>
   some ((y44.1.1, ()), ((y44.2.1.1, (y44.2.1.2.1, (y44.2.1.2.2.1, (y44.2.1.2.2.2.1, (y44.2.1.2.2.2.2.1, (y44.2.1.2.2.2.2.2.1, (y44.2.1.2.2.2.2.2.2.1, ((), ((), (y44.2.1.2.2.2.2.2.2.2.2.2.1, (y44.2.1.2.2.2.2.2.2.2.2.2.2.1, ()))))))))))), (y44.2.2.1, (y44.2.2.2.1, ()))))
  else none
  else
  bif key then
  bif (room (((List.length c64_10) + (List.length (((5 : Int), (([] : List UInt8), (y41.1, ((mgetD kI (mput kI m66 i (([(97 : UInt8)] : List UInt8) ++ (Go.Lib.itoa (IntKind.wrap .i64 ((len m66) + (1 : Int)))))) i ([] : List UInt8)), ((0 : Int), true))))) :: []))) * 73)) then
  Option.bind (L58_6 Fr (n + 3) key deep (5 : Int) x0.2.2.2.1 (len x0.2.2.2.1) (0 : Int) c64_0 c64_1 c64_2 c64_3 c64_4 c64_5 c64_6 (IntKind.wrap .i64 (c64_9 + (1 : Int))) (c64_10 ++ (((5 : Int), (([] : List UInt8), (y41.1, ((mgetD kI (mput kI m66 i (([(97 : UInt8)] : List UInt8) ++ (Go.Lib.itoa (IntKind.wrap .i64 ((len m66) + (1 : Int)))))) i ([] : List UInt8)), ((0 : Int), true))))) :: [])) m65 (mput kI m66 i (([(97 : UInt8)] : List UInt8) ++ (Go.Lib.itoa (IntKind.wrap .i64 ((len m66) + (1 : Int)))))) x0.1 x0.2.1 x0.2.2.1 x0.2.2.2.1 x0.2.2.2.2) fun y45 =>
  match y45 with
   | .inl y46 =>
   bif (room (((List.length y46.2.1.2.2.2.2.2.2.2.2.2.2.1) + (List.length (((IntKind.wrap .i64 (y46.1.2.1 + (1 : Int))), (([] : List UInt8), (([] : List UInt8), (([] : List UInt8), ((0 : Int), false))))) :: []))) * 73)) then
   some (((0 : Int), ()), ((y46.2.1.1, (y46.2.1.2.1, (y46.2.1.2.2.1, (y46.2.1.2.2.2.1, (y46.2.1.2.2.2.2.1, (y46.2.1.2.2.2.2.2.1, (y46.2.1.2.2.2.2.2.2.1, ((), ((), (y46.2.1.2.2.2.2.2.2.2.2.2.1, ((y46.2.1.2.2.2.2.2.2.2.2.2.2.1 ++ (((IntKind.wrap .i64 (y46.1.2.1 + (1 : Int))), (([] : List UInt8), (([] : List UInt8), (([] : List UInt8), ((0 : Int), false))))) :: [])), ()))))))))))), (y46.2.2.1, (y46.2.2.2.1, ()))))
   else none
   | .inr y47 =>
   some ((y47.1.1, ()), ((y47.2.1.1, (y47.2.1.2.1, (y47.2.1.2.2.1, (y47.2.1.2.2.2.1, (y47.2.1.2.2.2.2.1, (y47.2.1.2.2.2.2.2.1, (y47.2.1.2.2.2.2.2.2.1, ((), ((), (y47.2.1.2.2.2.2.2.2.2.2.2.1, (y47.2.1.2.2.2.2.2.2.2.2.2.2.1, ()))))))))))), (y47.2.2.1, (y47.2.2.2.1, ()))))
  else none
  else
  bif (room (((List.length c64_10) + (List.length (((5 : Int), (([] : List UInt8), (y41.1, ((mgetD kI (mput kI m66 i (([(97 : UInt8)] : List UInt8) ++ (Go.Lib.itoa (IntKind.wrap .i64 ((len m66) + (1 : Int)))))) i ([] : List UInt8)), ((0 : Int), ((len x0.2.2.2.1) == (0 : Int))))))) :: []))) * 73)) then
  Option.bind (L58_6 Fr (n + 3) key deep (5 : Int) x0.2.2.2.1 (len x0.2.2.2.1) (0 : Int) c64_0 c64_1 c64_2 c64_3 c64_4 c64_5 c64_6 (IntKind.wrap .i64 (c64_9 + (1 : Int))) (c64_10 ++ (((5 : Int), (([] : List UInt8), (y41.1, ((mgetD kI (mput kI m66 i (([(97 : UInt8)] : List UInt8) ++ (Go.Lib.itoa (IntKind.wrap .i64 ((len m66) + (1 : Int)))))) i ([] : List UInt8)), ((0 : Int), ((len x0.2.2.2.1) == (0 : Int))))))) :: [])) m65 (mput kI m66 i (([(97 : UInt8)] : List UInt8) ++ (Go.Lib.itoa (IntKind.wrap .i64 ((len m66) + (1 : Int)))))) x0.1 x0.2.1 x0.2.2.1 x0.2.2.2.1 x0.2.2.2.2) fun y48 =>
  match y48 with
  | .inl y49 =>
   bif (room (((List.length y49.2.1.2.2.2.2.2.2.2.2.2.2.1) + (List.length (((IntKind.wrap .i64 (y49.1.2.1 + (1 : Int))), (([] : List UInt8), (([] : List UInt8), (([] : List UInt8), ((0 : Int), false))))) :: []))) * 73)) then
   some (((0 : Int), ()), ((y49.2.1.1, (y49.2.1.2.1, (y49.2.1.2.2.1, (y49.2.1.2.2.2.1, (y49.2.1.2.2.2.2.1, (y49.2.1.2.2.2.2.2.1, (y49.2.1.2.2.2.2.2.2.1, ((), ((), (y49.2.1.2.2.2.2.2.2.2.2.2.1, ((y49.2.1.2.2.2.2.2.2.2.2.2.2.1 ++ (((IntKind.wrap .i64 (y49.1.2.1 + (1 : Int))), (([] : List UInt8), (([] : List UInt8), (([] : List UInt8), ((0 : Int), false))))) :: [])), ()))))))))))), (y49.2.2.1, (y49.2.2.2.1, ()))))
   else none
  | .inr y50 =>
   some ((y50.1.1, ()), ((y50.2.1.1, (y50.2.1.2.1, (y50.2.1.2.2.1, (y50.2.1.2.2.2.1, (y50.2.1.2.2.2.2.1, (y50.2.1.2.2.2.2.2.1, (y50.2.1.2.2.2.2.2.2.1, ((), ((), (y50.2.1.2.2.2.2.2.2.2.2.2.1, (y50.2.1.2.2.2.2.2.2.2.2.2.2.1, ()))))))))))), (y50.2.2.1, (y50.2.2.2.1, ()))))
  else none
 else
 Option.bind (elided (n + 2) x0.1 x0.2.1) fun y51 =>
 bif c64_5 then
  bif (room (((List.length c64_10) + (List.length (((3 : Int), (([] : List UInt8), (y51.1, ((mgetD kI (mput kI m66 i (([(97 : UInt8)] : List UInt8) ++ (Go.Lib.itoa (IntKind.wrap .i64 ((len m66) + (1 : Int)))))) i ([] : List UInt8)), ((0 : Int), true))))) :: []))) * 73)) then
  Option.bind (L58_6 Fr (n + 3) key deep (3 : Int) x0.2.2.2.1 (len x0.2.2.2.1) (0 : Int) c64_0 c64_1 c64_2 c64_3 c64_4 c64_5 c64_6 (IntKind.wrap .i64 (c64_9 + (1 : Int))) (c64_10 ++ (((3 : Int), (([] : List UInt8), (y51.1, ((mgetD kI (mput kI m66 i (([(97 : UInt8)] : List UInt8) ++ (Go.Lib.itoa (IntKind.wrap .i64 ((len m66) + (1 : Int)))))) i ([] : List UInt8)), ((0 : Int), true))))) :: [])) m65 (mput kI m66 i (([(97 : UInt8)] : List UInt8) ++ (Go.Lib.itoa (IntKind.wrap .i64 ((len m66) + (1 : Int)))))) x0.1 x0.2.1 x0.2.2.1 x0.2.2.2.1 x0.2.2.2.2) fun y52 =>
  match y52 with
  | .inl y53 =>
   bif (room (((List.length y53.2.1.2.2.2.2.2.2.2.2.2.2.1) + (List.length (((IntKind.wrap .i64 (y53.1.2.1 + (1 : Int))), (([] : List UInt8), (([] : List UInt8), (([] : List UInt8), ((0 : Int), false))))) :: []))) * 73)) then
   some (((0 : Int), ()), ((y53.2.1.1, (y53.2.1.2.1, (y53.2.1.2.2.1, (y53.2.1.2.2.2.1, (y53.2.1.2.2.2.2.1, (y53.2.1.2.2.2.2.2.1, (y53.2.1.2.2.2.2.2.2.1, ((), ((), (y53.2.1.2.2.2.2.2.2.2.2.2.1, ((y53.2.1.2.2.2.2.2.2.2.2.2.2.1 ++ (((IntKind.wrap .i64 (y53.1.2.1 + (1 : Int))), (([] : List UInt8), (([] : List UInt8), (([] : List UInt8), ((0 : Int), false))))) :: [])), ()))))))))))), (y53.2.2.1, (y53.2.2.2.1, ()))))
   else none
  | .inr y54 =>
   some ((y54.1.1, ()), ((y54.2.1.1, (y54.2.1.2.1, (y54.2.1.2.2.1, (y54.2.1.2.2.2.1, (y54.2.1.2.2.2.2.1, (y54.2.1.2.2.2.2.2.1, (y54.2.1.2.2.2.2.2.2.1, ((), ((), (y54.2.1.2.2.2.2.2.2.2.2.2.1, (y54.2.1.2.2.2.2.2.2.2.2.2.2.1, ()))))))))))), (y54.2.2.1, (y54.2.2.2.1, ()))))
  else none
 else
 bif key then
  bif (room (((List.length c64_10) + (List.length (((3 : Int), (([] : List UInt8), (y51.1, ((mgetD kI (mput kI m66 i (([(97 : UInt8)] : List UInt8) ++ (Go.Lib.itoa (IntKind.wrap .i64 ((len m66) + (1 : Int)))))) i ([] : List UInt8)), ((0 : Int), true))))) :: []))) * 73)) then
  Option.bind (L58_6 Fr (n + 3) key deep (3 : Int) x0.2.2.2.1 (len x0.2.2.2.1) (0 : Int) c64_0 c64_1 c64_2 c64_3 c64_4 c64_5 c64_6 (IntKind.wrap .i64 (c64_9 + (1 : Int))) (c64_10 ++ (((3 : Int), (([] : List UInt8), (y51.1, ((mgetD kI (mput kI m66 i (([(97 : UInt8)] : List UInt8) ++ (Go.Lib.itoa (IntKind.wrap .i64 ((len m66) + (1 : Int)))))) i ([] : List UInt8)), ((0 : Int), true))))) :: [])) m65 (mput kI m66 i (([(97 : UInt8)] : List UInt8) ++ (Go.Lib.itoa (IntKind.wrap .i64 ((len m66) + (1 : Int)))))) x0.1 x0.2.1 x0.2.2.1 x0.2.2.2.1 x0.2.2.2.2) fun y55 =>
  match y55 with
  | .inl y56 =>
   bif (room (((List.length y56.2.1.2.2.2.2.2.2.2.2.2.2.1) + (List.length (((IntKind.wrap .i64 (y56.1.2.1 + (1 : Int))), (([] : List UInt8), (([] : List UInt8), (([] : List UInt8), ((0 : Int), false))))) :: []))) * 73)) then
   some (((0 : Int), ()), ((y56.2.1.1, (y56.2.1.2.1, (y56.2.1.2.2.1, (y56.2.1.2.2.2.1, (y56.2.1.2.2.2.2.1, (y56.2.1.2.2.2.2.2.1, (y56.2.1.2.2.2.2.2.2.1, ((), ((), (y56.2.1.2.2.2.2.2.2.2.2.2.1, ((y56.2.1.2.2.2.2.2.2.2.2.2.2.1 ++ (((IntKind.wrap .i64 (y56.1.2.1 + (1 : Int))), (([] : List UInt8), (([] : List UInt8), (([] : List UInt8), ((0 : Int), false))))) :: [])), ()))))))))))), (y56.2.2.1, (y56.2.2.2.1, ()))))
   else none
  | .inr y57 =>
   some ((y57.1.1, ()), ((y57.2.1.1, (y57.2.1.2.1, (y57.2.1.2.2.1, (y57.2.1.2.2.2.1, (y57.2.1.2.2.2.2.1, (y57.2.1.2.2.2.2.2.1, (y57.2.1.2.2.2.2.2.2.1, ((), ((), (y57.2.1.2.2.2.2.2.2.2.2.2.1, (y57.2.1.2.2.2.2.2.2.2.2.2.2.1, ()))))))))))), (y57.2.2.1, (y57.2.2.2.1, ()))))
  else none
 else
 bif (room (((List.length c64_10) + (List.length (((3 : Int), (([] : List UInt8), (y51.1, ((mgetD kI (mput kI m66 i (([(97 : UInt8)] : List UInt8) ++ (Go.Lib.itoa (IntKind.wrap .i64 ((len m66) + (1 : Int)))))) i ([] : List UInt8)), ((0 : Int), ((len x0.2.2.2.1) == (0 : Int))))))) :: []))) * 73)) then
 Option.bind (L58_6 Fr (n + 3) key deep (3 : Int) x0.2.2.2.1 (len x0.2.2.2.1) (0 : Int) c64_0 c64_1 c64_2 c64_3 c64_4 c64_5 c64_6 (IntKind.wrap .i64 (c64_9 + (1 : Int))) (c64_10 ++ (((3 : Int), (([] : List UInt8), (y51.1, ((mgetD kI (mput kI m66 i (([(97 : UInt8)] : List UInt8) ++ (Go.Lib.itoa (IntKind.wrap .i64 ((len m66) + (1 : Int)))))) i ([] : List UInt8)), ((0 : Int), ((len x0.2.2.2.1) == (0 : Int))))))) :: [])) m65 (mput kI m66 i (([(97 : UInt8)] : List UInt8) ++ (Go.Lib.itoa (IntKind.wrap .i64 ((len m66) + (1 : Int)))))) x0.1 x0.2.1 x0.2.2.1 x0.2.2.2.1 x0.2.2.2.2) fun y58 =>
 match y58 with
  | .inl y59 =>
  bif (room (((List.length y59.2.1.2.2.2.2.2.2.2.2.2.2.1) + (List.length (((IntKind.wrap .i64 (y59.1.2.1 + (1 : Int))), (([] : List UInt8), (([] : List UInt8), (([] : List UInt8), ((0 : Int), false))))) :: []))) * 73)) then
  some (((0 : Int), ()), ((y59.2.1.1, (y59.2.1.2.1, (y59.2.1.2.2.1, (y59.2.1.2.2.2.1, (y59.2.1.2.2.2.2.1, (y59.2.1.2.2.2.2.2.1, (y59.2.1.2.2.2.2.2.2.1, ((), ((), (y59.2.1.2.2.2.2.2.2.2.2.2.1, ((y59.2.1.2.2.2.2.2.2.2.2.2.2.1 ++ (((IntKind.wrap .i64 (y59.1.2.1 + (1 : Int))), (([] : List UInt8), (([] : List UInt8), (([] : List UInt8), ((0 : Int), false))))) :: [])), ()))))))))))), (y59.2.2.1, (y59.2.2.2.1, ()))))
  else none
  | .inr y60 =>
  some ((y60.1.1, ()), ((y60.2.1.1, (y60.2.1.2.1, (y60.2.1.2.2.1, (y60.2.1.2.2.2.1, (y60.2.1.2.2.2.2.1, (y60.2.1.2.2.2.2.2.1, (y60.2.1.2.2.2.2.2.2.1, ((), ((), (y60.2.1.2.2.2.2.2.2.2.2.2.1, (y60.2.1.2.2.2.2.2.2.2.2.2.2.1, ()))))))))))), (y60.2.2.1, (y60.2.2.2.1, ()))))
 else none
 else
 bif c64_5 then
 Option.bind (may n c64_4 x0.2.2.1 true) fun y61 =>
 bif (!y61.1) then
  Option.bind (elided (n + 2) x0.1 x0.2.1) fun y62 =>
  bif (room (((List.length c64_10) + (List.length (((7 : Int), (x0.2.2.1, (y62.1, ((mgetD kI (mput kI m66 i (([(97 : UInt8)] : List UInt8) ++ (Go.Lib.itoa (IntKind.wrap .i64 ((len m66) + (1 : Int)))))) i ([] : List UInt8)), ((3 : Int), false))))) :: []))) * 73)) then
  some (((0 : Int), ()), ((c64_0, (c64_1, (c64_2, (c64_3, (c64_4, (c64_5, (c64_6, ((), ((), ((IntKind.wrap .i64 (c64_9 + (1 : Int))), ((c64_10 ++ (((7 : Int), (x0.2.2.1, (y62.1, ((mgetD kI (mput kI m66 i (([(97 : UInt8)] : List UInt8) ++ (Go.Lib.itoa (IntKind.wrap .i64 ((len m66) + (1 : Int)))))) i ([] : List UInt8)), ((3 : Int), false))))) :: [])), ()))))))))))), (m65, ((mput kI m66 i (([(97 : UInt8)] : List UInt8) ++ (Go.Lib.itoa (IntKind.wrap .i64 ((len m66) + (1 : Int)))))), ()))))
  else none
 else
 Option.bind (elided (n + 2) x0.1 x0.2.1) fun y63 =>
 bif (c64_4 != (1 : Int)) then
  bif (room (((List.length c64_10) + (List.length (((7 : Int), (x0.2.2.1, (y63.1, ((mgetD kI (mput kI m66 i (([(97 : UInt8)] : List UInt8) ++ (Go.Lib.itoa (IntKind.wrap .i64 ((len m66) + (1 : Int)))))) i ([] : List UInt8)), (c64_4, false))))) :: []))) * 73)) then
  some (((0 : Int), ()), ((c64_0, (c64_1, (c64_2, (c64_3, (c64_4, (c64_5, (c64_6, ((), ((), ((IntKind.wrap .i64 (c64_9 + (1 : Int))), ((c64_10 ++ (((7 : Int), (x0.2.2.1, (y63.1, ((mgetD kI (mput kI m66 i (([(97 : UInt8)] : List UInt8) ++ (Go.Lib.itoa (IntKind.wrap .i64 ((len m66) + (1 : Int)))))) i ([] : List UInt8)), (c64_4, false))))) :: [])), ()))))))))))), (m65, ((mput kI m66 i (([(97 : UInt8)] : List UInt8) ++ (Go.Lib.itoa (IntKind.wrap .i64 ((len m66) + (1 : Int)))))), ()))))
  else none
 else
 none
 else
 Option.bind (may n c64_4 x0.2.2.1 key) fun y64 =>
 bif (!y64.1) then
 Option.bind (elided (n + 2) x0.1 x0.2.1) fun y65 =>
 bif (room (((List.length c64_10) + (List.length (((7 : Int), (x0.2.2.1, (y65.1, ((mgetD kI (mput kI m66 i (([(97 : UInt8)] : List UInt8) ++ (Go.Lib.itoa (IntKind.wrap .i64 ((len m66) + (1 : Int)))))) i ([] : List UInt8)), ((3 : Int), false))))) :: []))) * 73)) then
 some (((0 : Int), ()), ((c64_0, (c64_1, (c64_2, (c64_3, (c64_4, (c64_5, (c64_6, ((), ((), ((IntKind.wrap .i64 (c64_9 + (1 : Int))), ((c64_10 ++ (((7 : Int), (x0.2.2.1, (y65.1, ((mgetD kI (mput kI m66 i (([(97 : UInt8)] : List UInt8) ++ (Go.Lib.itoa (IntKind.wrap .i64 ((len m66) + (1 : Int)))))) i ([] : List UInt8)), ((3 : Int), false))))) :: [])), ()))))))))))), (m65, ((mput kI m66 i (([(97 : UInt8)] : List UInt8) ++ (Go.Lib.itoa (IntKind.wrap .i64 ((len m66) + (1 : Int)))))), ()))))
 else none
 else
 Option.bind (elided (n + 2) x0.1 x0.2.1) fun y66 =>
 bif (c64_4 != (1 : Int)) then
 bif (room (((List.length c64_10) + (List.length (((7 : Int), (x0.2.2.1, (y66.1, ((mgetD kI (mput kI m66 i (([(97 : UInt8)] : List UInt8) ++ (Go.Lib.itoa (IntKind.wrap .i64 ((len m66) + (1 : Int)))))) i ([] : List UInt8)), (c64_4, false))))) :: []))) * 73)) then
 some (((0 : Int), ()), ((c64_0, (c64_1, (c64_2, (c64_3, (c64_4, (c64_5, (c64_6, ((), ((), ((IntKind.wrap .i64 (c64_9 + (1 : Int))), ((c64_10 ++ (((7 : Int), (x0.2.2.1, (y66.1, ((mgetD kI (mput kI m66 i (([(97 : UInt8)] : List UInt8) ++ (Go.Lib.itoa (IntKind.wrap .i64 ((len m66) + (1 : Int)))))) i ([] : List UInt8)), (c64_4, false))))) :: [])), ()))))))))))), (m65, ((mput kI m66 i (([(97 : UInt8)] : List UInt8) ++ (Go.Lib.itoa (IntKind.wrap .i64 ((len m66) + (1 : Int)))))), ()))))
 else none
 else
 none
 else none
 else none
 else none
noncomputable def plan_bit (Fr : Nat → Int → Bool → Int → qN → (List Int) → Int → Int → Int → Bool → Bool → Int → qE → (List (Int × Int)) → qM → Option ((Int × Unit) × ((qN × ((List Int) × (Int × (Int × (Int × (Bool × (Bool × (Unit × (Unit × (Int × (qE × Unit))))))))))) × ((List (Int × Int)) × (qM × Unit))))) : PFn := plan_it0 5 (fun n x => plan_b Fr n x.1.1 x.1.2.1 x.1.2.2.1 x.2.1.1 x.2.1.2.1 x.2.1.2.2.1 x.2.1.2.2.2.1 x.2.1.2.2.2.2.1 x.2.1.2.2.2.2.2.1 x.2.1.2.2.2.2.2.2.1 x.2.1.2.2.2.2.2.2.2.2.2.1 x.2.1.2.2.2.2.2.2.2.2.2.2.1 x.2.2.1 x.2.2.2.1)
theorem plan_bok (Fr : Nat → Int → Bool → Int → qN → (List Int) → Int → Int → Int → Bool → Bool → Int → qE → (List (Int × Int)) → qM → Option ((Int × Unit) × ((qN × ((List Int) × (Int × (Int × (Int × (Bool × (Bool × (Unit × (Unit × (Int × (qE × Unit))))))))))) × ((List (Int × Int)) × (qM × Unit))))) (hFr : ∀ m, PFnOK Tryz.prog hint shT (plan_or Fr) m) (n : Nat) : PFnOK Tryz.prog hint shT (plan_bit Fr) n :=
 PFnOK.of (hk := fun β => (Known.mk [may_it, elided_it] [(L58_6_it Fr)]).hk β) (sh := shT) (plan_T2ok _ _) (fun m _ => KnownOK.hook (((KnownOK.nil.fn elided_ok).loop (L58_6_ok Fr hFr) L58_6_T_ok).fn may_ok) m) (fun x s => by kernel_rfl)
noncomputable def plan_d : Nat → Nat → Int → Bool → Int → qN → (List Int) → Int → Int → Int → Bool → Bool → Int → qE → (List (Int × Int)) → qM → Option ((Int × Unit) × ((qN × ((List Int) × (Int × (Int × (Int × (Bool × (Bool × (Unit × (Unit × (Int × (qE × Unit))))))))))) × ((List (Int × Int)) × (qM × Unit))))
 | 0, _, _, _, _, _, _, _, _, _, _, _, _, _, _, _ => none
 | d + 1, n, i, key, deep, c64_0, c64_1, c64_2, c64_3, c64_4, c64_5, c64_6, c64_9, c64_10, m65, m66 => bif Nat.ble 5 n then plan_b (plan_d d) (n - 5) i key deep c64_0 c64_1 c64_2 c64_3 c64_4 c64_5 c64_6 c64_9 c64_10 m65 m66 else none
noncomputable def plan (n : Nat) (i : Int) (key : Bool) (deep : Int) (c64_0 : qN) (c64_1 : (List Int)) (c64_2 : Int) (c64_3 : Int) (c64_4 : Int) (c64_5 : Bool) (c64_6 : Bool) (c64_9 : Int) (c64_10 : qE) (m65 : (List (Int × Int))) (m66 : qM) : Option ((Int × Unit) × ((qN × ((List Int) × (Int × (Int × (Int × (Bool × (Bool × (Unit × (Unit × (Int × (qE × Unit))))))))))) × ((List (Int × Int)) × (qM × Unit)))) := plan_d n n i key deep c64_0 c64_1 c64_2 c64_3 c64_4 c64_5 c64_6 c64_9 c64_10 m65 m66
noncomputable def plan_it : PFn := plan_it0 0 (fun n x => plan n x.1.1 x.1.2.1 x.1.2.2.1 x.2.1.1 x.2.1.2.1 x.2.1.2.2.1 x.2.1.2.2.2.1 x.2.1.2.2.2.2.1 x.2.1.2.2.2.2.2.1 x.2.1.2.2.2.2.2.2.1 x.2.1.2.2.2.2.2.2.2.2.2.1 x.2.1.2.2.2.2.2.2.2.2.2.2.1 x.2.2.1 x.2.2.2.1)
theorem plan_ok (n : Nat) : PFnOK Tryz.prog hint shT plan_it n :=
 PFnOK.diag (it := plan_it0 0 fun _ _ => none) (fun d n x => plan_d d n x.1.1 x.1.2.1 x.1.2.2.1 x.2.1.1 x.2.1.2.1 x.2.1.2.2.1 x.2.1.2.2.2.1 x.2.1.2.2.2.2.1 x.2.1.2.2.2.2.2.1 x.2.1.2.2.2.2.2.2.1 x.2.1.2.2.2.2.2.2.2.2.2.1 x.2.1.2.2.2.2.2.2.2.2.2.2.1 x.2.2.1 x.2.2.2.1) (PFnOK.byDepth (it := plan_it0 0 fun _ _ => none) (D := 5) (fun G n x => plan_b (fun n i key deep c64_0 c64_1 c64_2 c64_3 c64_4 c64_5 c64_6 c64_9 c64_10 m65 m66 => G n ((i, (key, (deep, ()))), ((c64_0, (c64_1, (c64_2, (c64_3, (c64_4, (c64_5, (c64_6, ((), ((), (c64_9, (c64_10, ()))))))))))), (m65, (m66, ()))))) n x.1.1 x.1.2.1 x.1.2.2.1 x.2.1.1 x.2.1.2.1 x.2.1.2.2.1 x.2.1.2.2.2.1 x.2.1.2.2.2.2.1 x.2.1.2.2.2.2.2.1 x.2.1.2.2.2.2.2.2.1 x.2.1.2.2.2.2.2.2.2.2.2.1 x.2.1.2.2.2.2.2.2.2.2.2.2.1 x.2.2.1 x.2.2.2.1) _ (fun _ _ => rfl) (fun _ _ _ => rfl) (fun G h n => plan_bok (fun n i key deep c64_0 c64_1 c64_2 c64_3 c64_4 c64_5 c64_6 c64_9 c64_10 m65 m66 => G n ((i, (key, (deep, ()))), ((c64_0, (c64_1, (c64_2, (c64_3, (c64_4, (c64_5, (c64_6, ((), ((), (c64_9, (c64_10, ()))))))))))), (m65, (m66, ()))))) h n)) n
end Go.Proofs.YteknbnkjelmfaaaGreatDoor
/- Plain functions for the program's. -/
namespace Go.Proofs.YteknbnkjelmfaaaGreatDoor
open Go Go.Iv Go.Gv
set_option maxRecDepth 100000
set_option linter.unusedVariables false
noncomputable def L56_6_78_Xexit2 : Tm := ⟨[(0, .one (.fix (TV.yld 73))), (2, .one (.fix (TV.ptr 71 0))), (4, .one (.fix (TV.mp 74))), (5, .one (.all 78 3 (.int .i64) .no))], [(66, .cells 53 [.lst sN, .lst (.int .i64), .int .i64, .int .i64, .int .i64, .bool, .bool, .fix (TV.mp 69), .fix (TV.mp 70), .int .i64, .all 79 45 sE .any] true), (68, .cells 49 [.fix (TV.ptr 66 0)] true), (69, .map 3 false false (.int .i64) (.int .i64) false), (70, .map 3 false false (.int .i64) .str false), (71, .cells 25 [.lst sN, .lst (.int .i64)] true), (73, .loop 18 Go.LoopState.ready (Option.none) (fiIn Tryz.prog hint 18) [(3, .one (.fix (TV.ptr 68 0)))] (rangeIn Tryz.prog 18 4).1 (rangeIn Tryz.prog 18 4).2.1 (rangeIn Tryz.prog 18 4).2.2), (74, .map 3 false false (.int .i64) .bool false)], 78, 80, 3017⟩
noncomputable def L56_6_78_T : Tm := ⟨[(0, .one (.fix (TV.yld 73))), (2, .one (.fix (TV.ptr 71 0))), (4, .one (.fix (TV.mp 74))), (5, .one (.all 78 3 (.int .i64) .no)), (33, .one (.lst (.int .i64))), (34, .one (.int .i64)), (35, .one (.int .i64))], [(66, .cells 53 [.lst sN, .lst (.int .i64), .int .i64, .int .i64, .int .i64, .bool, .bool, .fix (TV.mp 69), .fix (TV.mp 70), .int .i64, .all 79 45 sE .any] true), (68, .cells 49 [.fix (TV.ptr 66 0)] true), (69, .map 3 false false (.int .i64) (.int .i64) false), (70, .map 3 false false (.int .i64) .str false), (71, .cells 25 [.lst sN, .lst (.int .i64)] true), (73, .loop 18 Go.LoopState.ready (Option.none) (fiIn Tryz.prog hint 18) [(3, .one (.fix (TV.ptr 68 0)))] (rangeIn Tryz.prog 18 4).1 (rangeIn Tryz.prog 18 4).2.1 (rangeIn Tryz.prog 18 4).2.2), (74, .map 3 false false (.int .i64) .bool false)], 78, 80, 3017⟩
noncomputable def L56_6_78 : Nat → (List Int) → (List Int) → Int → Int → qN → (List Int) → Int → Int → Int → Bool → Bool → Int → qE → (List (Int × Int)) → qM → qN → (List Int) → (List (Int × Bool)) → Option ((Unit × (Unit × (Unit × ((List Int) × Unit)))) × ((qN × ((List Int) × (Int × (Int × (Int × (Bool × (Bool × (Unit × (Unit × (Int × (qE × Unit))))))))))) × ((Unit × Unit) × ((List (Int × Int)) × (qM × ((qN × ((List Int) × Unit)) × ((Unit × Unit) × ((List (Int × Bool)) × Unit))))))))
 | 0, _, _, _, _, _, _, _, _, _, _, _, _, _, _, _, _, _, _ => none
 | n + 1, t5, t33, t34, t35, c66_0, c66_1, c66_2, c66_3, c66_4, c66_5, c66_6, c66_9, c66_10, m69, m70, c71_0, c71_1, m74 =>
 bif (ilt t35 t34) then
  bif (ile (0 : Int) t35) then
  Option.bind (t33[(Int.toNat t35)]?) fun x23 =>
  bif (!(mgetD kI m74 x23 false)) then
  bif (room (((List.length t5) + (List.length (x23 :: ([] : List Int)))) * 9)) then
  L56_6_78 n (t5 ++ (x23 :: ([] : List Int))) t33 t34 (IntKind.wrap .i64 (t35 + (1 : Int))) c66_0 c66_1 c66_2 c66_3 c66_4 c66_5 c66_6 c66_9 c66_10 (mput kI m69 x23 (IntKind.wrap .i64 ((mgetD kI m69 x23 (0 : Int)) + (1 : Int)))) m70 c71_0 c71_1 (mput kI m74 x23 true)
  else none
  else
  L56_6_78 n t5 t33 t34 (IntKind.wrap .i64 (t35 + (1 : Int))) c66_0 c66_1 c66_2 c66_3 c66_4 c66_5 c66_6 c66_9 c66_10 (mput kI m69 x23 (IntKind.wrap .i64 ((mgetD kI m69 x23 (0 : Int)) + (1 : Int)))) m70 c71_0 c71_1 m74
  else none
 else
 some (((), ((), ((), (t5, ())))), ((c66_0, (c66_1, (c66_2, (c66_3, (c66_4, (c66_5, (c66_6, ((), ((), (c66_9, (c66_10, ()))))))))))), (((), ()), (m69, (m70, ((c71_0, (c71_1, ())), (((), ()), (m74, ()))))))))
noncomputable def L56_6_78_it : LoopIt := ⟨56, 6, none, L56_6_78_T, [(.exit 2, L56_6_78_Xexit2)], 1, fun n x => L56_6_78 n x.1.2.2.2.1 x.1.2.2.2.2.1 x.1.2.2.2.2.2.1 x.1.2.2.2.2.2.2.1 x.2.1.1 x.2.1.2.1 x.2.1.2.2.1 x.2.1.2.2.2.1 x.2.1.2.2.2.2.1 x.2.1.2.2.2.2.2.1 x.2.1.2.2.2.2.2.2.1 x.2.1.2.2.2.2.2.2.2.2.2.1 x.2.1.2.2.2.2.2.2.2.2.2.2.1 x.2.2.2.1 x.2.2.2.2.1 x.2.2.2.2.2.1.1 x.2.2.2.2.2.1.2.1 x.2.2.2.2.2.2.2.1, []⟩
theorem L56_6_78_Xexit2_ok : L56_6_78_Xexit2.ok Tryz.prog hint := by
 intro p hp
 simp only [L56_6_78_Xexit2, List.mem_cons, List.not_mem_nil, or_false] at hp
 rcases hp with rfl | rfl | rfl | rfl | rfl | rfl | rfl
 ·trivial
 ·trivial
 ·trivial
 ·trivial
 ·trivial
 ·exact Uniq.of (by kernel_rfl) (by kernel_rfl)
 ·trivial
theorem L56_6_78_T_ok : L56_6_78_T.ok Tryz.prog hint := by
 intro p hp
 simp only [L56_6_78_T, List.mem_cons, List.not_mem_nil, or_false] at hp
 rcases hp with rfl | rfl | rfl | rfl | rfl | rfl | rfl
 ·trivial
 ·trivial
 ·trivial
 ·trivial
 ·trivial
 ·exact Uniq.of (by kernel_rfl) (by kernel_rfl)
 ·trivial
theorem L56_6_78_ok : ∀ n, LoopOK Tryz.prog hint shT L56_6_78_it n :=
 LoopOK.of (hk := fun β => (Known.mk [] []).hk β) (sh := shT) (OneLoop.of (by kernel_rfl)) L56_6_78_T_ok ⟨⟨L56_6_78_Xexit2_ok, Nat.le_refl _, Nat.le_refl _⟩, trivial⟩ (fun m => KnownOK.hook KnownOK.nil m)
  (fun _ => by kernel_rfl) (fun m x => by kernel_rfl)
noncomputable def L56_2_76_Xexit0 : Tm := ⟨[], [(66, .cells 53 [.lst sN, .lst (.int .i64), .int .i64, .int .i64, .int .i64, .bool, .bool, .fix (TV.mp 69), .fix (TV.mp 70), .int .i64, .all 76 45 sE .any] true), (68, .cells 49 [.fix (TV.ptr 66 0)] true), (69, .map 3 false false (.int .i64) (.int .i64) false), (70, .map 3 false false (.int .i64) .str false), (71, .cells 25 [.lst sN, .lst (.int .i64)] true), (73, .loop 18 Go.LoopState.ready (Option.none) (fiIn Tryz.prog hint 18) [(3, .one (.fix (TV.ptr 68 0)))] (rangeIn Tryz.prog 18 4).1 (rangeIn Tryz.prog 18 4).2.1 (rangeIn Tryz.prog 18 4).2.2), (74, .map 3 false false (.int .i64) .bool false)], 76, 77, 2016⟩
noncomputable def L56_2_76_T : Tm := ⟨[(0, .one (.fix (TV.yld 73))), (2, .one (.fix (TV.ptr 71 0))), (4, .one (.fix (TV.mp 74))), (5, .one (.all 76 3 (.int .i64) .no))], [(66, .cells 53 [.lst sN, .lst (.int .i64), .int .i64, .int .i64, .int .i64, .bool, .bool, .fix (TV.mp 69), .fix (TV.mp 70), .int .i64, .all 77 45 sE .any] true), (68, .cells 49 [.fix (TV.ptr 66 0)] true), (69, .map 3 false false (.int .i64) (.int .i64) false), (70, .map 3 false false (.int .i64) .str false), (71, .cells 25 [.lst sN, .lst (.int .i64)] true), (73, .loop 18 Go.LoopState.ready (Option.none) (fiIn Tryz.prog hint 18) [(3, .one (.fix (TV.ptr 68 0)))] (rangeIn Tryz.prog 18 4).1 (rangeIn Tryz.prog 18 4).2.1 (rangeIn Tryz.prog 18 4).2.2), (74, .map 3 false false (.int .i64) .bool false)], 76, 78, 2016⟩
noncomputable def L56_2_76 : Nat → (List Int) → qN → (List Int) → Int → Int → Int → Bool → Bool → Int → qE → (List (Int × Int)) → qM → qN → (List Int) → (List (Int × Bool)) → Option (Unit × ((qN × ((List Int) × (Int × (Int × (Int × (Bool × (Bool × (Unit × (Unit × (Int × (qE × Unit))))))))))) × ((Unit × Unit) × ((List (Int × Int)) × (qM × ((qN × ((List Int) × Unit)) × ((Unit × Unit) × ((List (Int × Bool)) × Unit))))))))
 | 0, _, _, _, _, _, _, _, _, _, _, _, _, _, _, _ => none
 | n + 1, t5, c66_0, c66_1, c66_2, c66_3, c66_4, c66_5, c66_6, c66_9, c66_10, m69, m70, c71_0, c71_1, m74 =>
 bif (ilt (0 : Int) (len t5)) then
  bif ((ile (0 : Int) (IntKind.wrap .i64 ((len t5) - (1 : Int)))) && (ilt (IntKind.wrap .i64 ((len t5) - (1 : Int))) (len t5))) then
  Option.bind (t5[(Int.toNat (IntKind.wrap .i64 ((len t5) - (1 : Int))))]?) fun x28 =>
  bif ((ile (0 : Int) (IntKind.wrap .i64 ((len t5) - (1 : Int)))) && (ile (IntKind.wrap .i64 ((len t5) - (1 : Int))) (len t5))) then
  bif (ile (0 : Int) x28) then
  Option.bind (c71_0[(Int.toNat x28)]?) fun x29 =>
  Option.bind (L56_6_78 (n + 1) (List.take ((Int.toNat (IntKind.wrap .i64 ((len t5) - (1 : Int)))) - 0) (List.drop 0 t5)) x29.2.2.2.1 (len x29.2.2.2.1) (0 : Int) c66_0 c66_1 c66_2 c66_3 c66_4 c66_5 c66_6 c66_9 c66_10 m69 m70 c71_0 c71_1 m74) fun y30 =>
  L56_2_76 n y30.1.2.2.2.1 y30.2.1.1 y30.2.1.2.1 y30.2.1.2.2.1 y30.2.1.2.2.2.1 y30.2.1.2.2.2.2.1 y30.2.1.2.2.2.2.2.1 y30.2.1.2.2.2.2.2.2.1 y30.2.1.2.2.2.2.2.2.2.2.2.1 y30.2.1.2.2.2.2.2.2.2.2.2.2.1 y30.2.2.2.1 y30.2.2.2.2.1 y30.2.2.2.2.2.1.1 y30.2.2.2.2.2.1.2.1 y30.2.2.2.2.2.2.2.1
  else none
  else none
  else none
 else
 some ((), ((c66_0, (c66_1, (c66_2, (c66_3, (c66_4, (c66_5, (c66_6, ((), ((), (c66_9, (c66_10, ()))))))))))), (((), ()), (m69, (m70, ((c71_0, (c71_1, ())), (((), ()), (m74, ()))))))))
noncomputable def L56_2_76_it : LoopIt := ⟨56, 2, none, L56_2_76_T, [(.exit 0, L56_2_76_Xexit0)], 1, fun n x => L56_2_76 n x.1.2.2.2.1 x.2.1.1 x.2.1.2.1 x.2.1.2.2.1 x.2.1.2.2.2.1 x.2.1.2.2.2.2.1 x.2.1.2.2.2.2.2.1 x.2.1.2.2.2.2.2.2.1 x.2.1.2.2.2.2.2.2.2.2.2.1 x.2.1.2.2.2.2.2.2.2.2.2.2.1 x.2.2.2.1 x.2.2.2.2.1 x.2.2.2.2.2.1.1 x.2.2.2.2.2.1.2.1 x.2.2.2.2.2.2.2.1, [65, 72]⟩
theorem L56_2_76_Xexit0_ok : L56_2_76_Xexit0.ok Tryz.prog hint := by
 intro p hp
 simp only [L56_2_76_Xexit0, List.mem_cons, List.not_mem_nil, or_false] at hp
 rcases hp with rfl | rfl | rfl | rfl | rfl | rfl | rfl
 ·trivial
 ·trivial
 ·trivial
 ·trivial
 ·trivial
 ·exact Uniq.of (by kernel_rfl) (by kernel_rfl)
 ·trivial
theorem L56_2_76_T_ok : L56_2_76_T.ok Tryz.prog hint := by
 intro p hp
 simp only [L56_2_76_T, List.mem_cons, List.not_mem_nil, or_false] at hp
 rcases hp with rfl | rfl | rfl | rfl | rfl | rfl | rfl
 ·trivial
 ·trivial
 ·trivial
 ·trivial
 ·trivial
 ·exact Uniq.of (by kernel_rfl) (by kernel_rfl)
 ·trivial
theorem L56_2_76_ok : ∀ n, LoopOK Tryz.prog hint shT L56_2_76_it n :=
 LoopOK.of (hk := fun β => (Known.mk [] [L56_6_78_it]).hk β) (sh := shT) (OneLoop.of (by kernel_rfl)) L56_2_76_T_ok ⟨⟨L56_2_76_Xexit0_ok, Nat.le_refl _, Nat.le_refl _⟩, trivial⟩ (fun m => KnownOK.hook (KnownOK.nil.loop L56_6_78_ok L56_6_78_T_ok) m)
  (fun _ => by kernel_rfl) (fun m x => by kernel_rfl)
noncomputable def L9_5_Xexit0 : Tm := ⟨[(6, .one (.fix (TV.ptr 66 0)))], [(65, .cells 27 [.int .i64, .int .i64, .int .i64, .bool, .bool] true), (66, .cells 53 [.lst sN, .lst (.int .i64), .int .i64, .int .i64, .int .i64, .bool, .bool, .fix TV.undef, .fix TV.undef, .int .i64, .all 67 45 sE .any] true)], 67, 68, 1003⟩
noncomputable def L9_5_Xret : Tm := ⟨[(4, .one (.fix (TV.raw (Go.Value.slice (Option.none) 0 0)))), (5, .one (.int .i64))], [(65, .cells 27 [.int .i64, .int .i64, .int .i64, .bool, .bool] true), (66, .cells 53 [.lst sN, .lst (.int .i64), .int .i64, .int .i64, .int .i64, .bool, .bool, .fix TV.undef, .fix TV.undef, .int .i64, .all 67 45 sE .any] true)], 67, 68, 1003⟩
noncomputable def L9_5_T : Tm := ⟨[(3, .one (.fix (TV.ptr 65 0))), (6, .one (.fix (TV.ptr 66 0))), (18, .one (.lst (.int .i64))), (19, .one (.int .i64)), (20, .one (.int .i64))], [(65, .cells 27 [.int .i64, .int .i64, .int .i64, .bool, .bool] true), (66, .cells 53 [.lst sN, .lst (.int .i64), .int .i64, .int .i64, .int .i64, .bool, .bool, .fix TV.undef, .fix TV.undef, .int .i64, .all 67 45 sE .any] true)], 67, 68, 1003⟩
noncomputable def L9_5 : Nat → (List Int) → Int → Int → Int → Int → Int → Bool → Bool → qN → (List Int) → Int → Int → Int → Bool → Bool → Int → qE → Option (((Unit × Unit) × ((Int × (Int × (Int × (Bool × (Bool × Unit))))) × ((qN × ((List Int) × (Int × (Int × (Int × (Bool × (Bool × (Unit × (Unit × (Int × (qE × Unit))))))))))) × Unit))) ⊕ ((Unit × (Int × Unit)) × ((Int × (Int × (Int × (Bool × (Bool × Unit))))) × ((qN × ((List Int) × (Int × (Int × (Int × (Bool × (Bool × (Unit × (Unit × (Int × (qE × Unit))))))))))) × Unit))))
 | 0, _, _, _, _, _, _, _, _, _, _, _, _, _, _, _, _, _ => none
 | n + 1, t18, t19, t20, c65_0, c65_1, c65_2, c65_3, c65_4, c66_0, c66_1, c66_2, c66_3, c66_4, c66_5, c66_6, c66_9, c66_10 =>
 bif (ilt t20 t19) then
  bif (ile (0 : Int) t20) then
  Option.bind (t18[(Int.toNat t20)]?) fun x40 =>
  bif c65_4 then
  Option.bind (L56_2_76 (n + 1) (x40 :: ([] : List Int)) c66_0 c66_1 c66_2 c66_3 c66_4 c66_5 c66_6 c66_9 c66_10 (mput kI [] x40 (1 : Int)) [] c66_0 c66_1 (mput kI [] x40 true)) fun y41 =>
  bif (room (((List.length y41.2.1.2.2.2.2.2.2.2.2.2.2.1) + (List.length (((1 : Int), (([] : List UInt8), (([] : List UInt8), (([] : List UInt8), ((0 : Int), true))))) :: []))) * 73)) then
  Option.bind (plan (n + 2) x40 false (0 : Int) y41.2.1.1 y41.2.1.2.1 y41.2.1.2.2.1 y41.2.1.2.2.2.1 y41.2.1.2.2.2.2.1 y41.2.1.2.2.2.2.2.1 y41.2.1.2.2.2.2.2.2.1 y41.2.1.2.2.2.2.2.2.2.2.2.1 (y41.2.1.2.2.2.2.2.2.2.2.2.2.1 ++ (((1 : Int), (([] : List UInt8), (([] : List UInt8), (([] : List UInt8), ((0 : Int), true))))) :: [])) y41.2.2.2.1 y41.2.2.2.2.1) fun y42 =>
  bif (room (((List.length y42.2.1.2.2.2.2.2.2.2.2.2.2.1) + (List.length (((2 : Int), (([] : List UInt8), (([] : List UInt8), (([] : List UInt8), ((0 : Int), false))))) :: []))) * 73)) then
  bif (y42.1.1 != (0 : Int)) then
   some (.inr (((), (y42.1.1, ())), ((c65_0, (c65_1, (c65_2, (c65_3, (c65_4, ()))))), ((y42.2.1.1, (y42.2.1.2.1, (y42.2.1.2.2.1, (y42.2.1.2.2.2.1, (y42.2.1.2.2.2.2.1, (y42.2.1.2.2.2.2.2.1, (y42.2.1.2.2.2.2.2.2.1, ((), ((), (y42.2.1.2.2.2.2.2.2.2.2.2.1, ((y42.2.1.2.2.2.2.2.2.2.2.2.2.1 ++ (((2 : Int), (([] : List UInt8), (([] : List UInt8), (([] : List UInt8), ((0 : Int), false))))) :: [])), ()))))))))))), ()))))
  else
  L9_5 n t18 t19 (IntKind.wrap .i64 (t20 + (1 : Int))) c65_0 c65_1 c65_2 c65_3 c65_4 y42.2.1.1 y42.2.1.2.1 y42.2.1.2.2.1 y42.2.1.2.2.2.1 y42.2.1.2.2.2.2.1 y42.2.1.2.2.2.2.2.1 y42.2.1.2.2.2.2.2.2.1 y42.2.1.2.2.2.2.2.2.2.2.2.1 (y42.2.1.2.2.2.2.2.2.2.2.2.2.1 ++ (((2 : Int), (([] : List UInt8), (([] : List UInt8), (([] : List UInt8), ((0 : Int), false))))) :: []))
  else none
  else none
  else
  Option.bind (L56_2_76 (n + 1) (x40 :: ([] : List Int)) c66_0 c66_1 c66_2 c66_3 c66_4 c66_5 c66_6 c66_9 c66_10 (mput kI [] x40 (1 : Int)) [] c66_0 c66_1 (mput kI [] x40 true)) fun y43 =>
  bif (room (((List.length y43.2.1.2.2.2.2.2.2.2.2.2.2.1) + (List.length (((1 : Int), (([] : List UInt8), (([] : List UInt8), (([] : List UInt8), ((0 : Int), (ilt (0 : Int) t20)))))) :: []))) * 73)) then
  Option.bind (plan (n + 2) x40 false (0 : Int) y43.2.1.1 y43.2.1.2.1 y43.2.1.2.2.1 y43.2.1.2.2.2.1 y43.2.1.2.2.2.2.1 y43.2.1.2.2.2.2.2.1 y43.2.1.2.2.2.2.2.2.1 y43.2.1.2.2.2.2.2.2.2.2.2.1 (y43.2.1.2.2.2.2.2.2.2.2.2.2.1 ++ (((1 : Int), (([] : List UInt8), (([] : List UInt8), (([] : List UInt8), ((0 : Int), (ilt (0 : Int) t20)))))) :: [])) y43.2.2.2.1 y43.2.2.2.2.1) fun y44 =>
  bif (room (((List.length y44.2.1.2.2.2.2.2.2.2.2.2.2.1) + (List.length (((2 : Int), (([] : List UInt8), (([] : List UInt8), (([] : List UInt8), ((0 : Int), false))))) :: []))) * 73)) then
  bif (y44.1.1 != (0 : Int)) then
  some (.inr (((), (y44.1.1, ())), ((c65_0, (c65_1, (c65_2, (c65_3, (c65_4, ()))))), ((y44.2.1.1, (y44.2.1.2.1, (y44.2.1.2.2.1, (y44.2.1.2.2.2.1, (y44.2.1.2.2.2.2.1, (y44.2.1.2.2.2.2.2.1, (y44.2.1.2.2.2.2.2.2.1, ((), ((), (y44.2.1.2.2.2.2.2.2.2.2.2.1, ((y44.2.1.2.2.2.2.2.2.2.2.2.2.1 ++ (((2 : Int), (([] : List UInt8), (([] : List UInt8), (([] : List UInt8), ((0 : Int), false))))) :: [])), ()))))))))))), ()))))
  else
  L9_5 n t18 t19 (IntKind.wrap .i64 (t20 + (1 : Int))) c65_0 c65_1 c65_2 c65_3 c65_4 y44.2.1.1 y44.2.1.2.1 y44.2.1.2.2.1 y44.2.1.2.2.2.1 y44.2.1.2.2.2.2.1 y44.2.1.2.2.2.2.2.1 y44.2.1.2.2.2.2.2.2.1 y44.2.1.2.2.2.2.2.2.2.2.2.1 (y44.2.1.2.2.2.2.2.2.2.2.2.2.1 ++ (((2 : Int), (([] : List UInt8), (([] : List UInt8), (([] : List UInt8), ((0 : Int), false))))) :: []))
  else none
  else none
  else none
 else
 some (.inl (((), ()), ((c65_0, (c65_1, (c65_2, (c65_3, (c65_4, ()))))), ((c66_0, (c66_1, (c66_2, (c66_3, (c66_4, (c66_5, (c66_6, ((), ((), (c66_9, (c66_10, ()))))))))))), ()))))
noncomputable def L9_5_it : LoopIt := ⟨9, 5, none, L9_5_T, [(.exit 0, L9_5_Xexit0), (.ret, L9_5_Xret)], 3, fun n x => L9_5 n x.1.2.2.1 x.1.2.2.2.1 x.1.2.2.2.2.1 x.2.1.1 x.2.1.2.1 x.2.1.2.2.1 x.2.1.2.2.2.1 x.2.1.2.2.2.2.1 x.2.2.1.1 x.2.2.1.2.1 x.2.2.1.2.2.1 x.2.2.1.2.2.2.1 x.2.2.1.2.2.2.2.1 x.2.2.1.2.2.2.2.2.1 x.2.2.1.2.2.2.2.2.2.1 x.2.2.1.2.2.2.2.2.2.2.2.2.1 x.2.2.1.2.2.2.2.2.2.2.2.2.2.1, [64]⟩
theorem L9_5_Xexit0_ok : L9_5_Xexit0.ok Tryz.prog hint := Tm.okS rfl
theorem L9_5_Xret_ok : L9_5_Xret.ok Tryz.prog hint := Tm.okS rfl
theorem L9_5_T_ok : L9_5_T.ok Tryz.prog hint := Tm.okS rfl
theorem L9_5_ok : ∀ n, LoopOK Tryz.prog hint shT L9_5_it n :=
 LoopOK.of (hk := fun β => (Known.mk [] [L56_2_76_it]).hkP [plan_it] β) (sh := shT) (OneLoop.of (by kernel_rfl)) L9_5_T_ok ⟨⟨L9_5_Xexit0_ok, Nat.le_refl _, Nat.le_refl _⟩, ⟨L9_5_Xret_ok, Nat.le_refl _, Nat.le_refl _⟩, trivial⟩ (fun m => KnownOK.hookP (KnownOK.nil.loop L56_2_76_ok L56_2_76_T_ok) (KnownP.nil.fn plan_ok (plan_Tok _ _)) m)
  (fun _ => by kernel_rfl) (fun m x => by kernel_rfl)
noncomputable def events (n : Nat) (g : (List (Int × (List UInt8 × (List UInt8 × (List Int × Bool)))) × List Int)) (o : (Int × (Int × (Int × (Bool × Bool))))) : Option (qE × (Int × Unit)) :=
 Option.bind (right n (g.1, g.2)) fun y0 =>
 bif (!y0.1) then
 some ([], (1 : Int), ())
 else
 Option.bind (L9_5 (n + 5) g.2 (len g.2) (0 : Int) o.1 o.2.1 o.2.2.1 o.2.2.2.1 o.2.2.2.2 g.1 g.2 o.1 o.2.1 o.2.2.1 o.2.2.2.1 o.2.2.2.2 (0 : Int) []) fun y45 =>
 match y45 with
 | .inl y46 =>
  some (y46.2.2.1.2.2.2.2.2.2.2.2.2.2.1, (0 : Int), ())
 | .inr y47 =>
  some ([], y47.1.2.1, ())
noncomputable def events_it : FnIt := ⟨9, [(true, (.cons (.slc sN) (.slc (.int .i64)))), (true, (.cons (.int .i64) (.cons (.int .i64) (.cons (.int .i64) (.cons .bool .bool)))))], [(false, (.slc sE)), (false, (.int .i64))], 8, fun n x => events n x.1 x.2.1⟩
theorem events_ok (n : Nat) : FnOK Tryz.prog hint shT events_it n :=
 FnOK.of (hk := fun β => (Known.mk [right_it] [L9_5_it]).hk β) (sh := shT) (fun m _ => KnownOK.hook ((KnownOK.nil.fn right_ok).loop L9_5_ok L9_5_T_ok) m) (fun x => by kernel_rfl)
end Go.Proofs.YteknbnkjelmfaaaGreatDoor
/- Plain functions for the program's. -/
namespace Go.Proofs.YteknbnkjelmfaaaGreatDoor
open Go Go.Iv Go.Gv
set_option maxRecDepth 100000
set_option linter.unusedVariables false
noncomputable def digitsR_or (Fr : Nat → Int → Option ((List UInt8) × Unit)) : FnIt := ⟨15, [(false, (.int .i64))], [(false, .str)], 0, fun n x => Fr n x.1⟩
noncomputable def digitsR_b (Fr : Nat → Int → Option ((List UInt8) × Unit)) (n : Nat) (m : Int) : Option ((List UInt8) × Unit) :=
 bif ((ile (0 : Int) (IntKind.wrap .i64 ((Int.tmod m (10 : Int)) + (1 : Int)))) && (ile (IntKind.wrap .i64 ((Int.tmod m (10 : Int)) + (1 : Int))) (10 : Int))) then
 bif ((ile (0 : Int) (Int.tmod m (10 : Int))) && (ile (Int.tmod m (10 : Int)) (((Int.toNat (IntKind.wrap .i64 ((Int.tmod m (10 : Int)) + (1 : Int)))) : Nat) : Int))) then
 bif (ilt (9 : Int) m) then
 Option.bind (Fr n (IntKind.wrap .i64 (Int.tdiv m (10 : Int)))) fun y0 =>
 bif (room ((List.length y0.1) + (List.length (List.take ((Int.toNat (IntKind.wrap .i64 ((Int.tmod m (10 : Int)) + (1 : Int)))) - (Int.toNat (Int.tmod m (10 : Int)))) (List.drop (Int.toNat (Int.tmod m (10 : Int))) ([(48 : UInt8), (49 : UInt8), (50 : UInt8), (51 : UInt8), (52 : UInt8), (53 : UInt8), (54 : UInt8), (55 : UInt8), (56 : UInt8), (57 : UInt8)] : List UInt8)))))) then
 some ((y0.1 ++ (List.take ((Int.toNat (IntKind.wrap .i64 ((Int.tmod m (10 : Int)) + (1 : Int)))) - (Int.toNat (Int.tmod m (10 : Int)))) (List.drop (Int.toNat (Int.tmod m (10 : Int))) ([(48 : UInt8), (49 : UInt8), (50 : UInt8), (51 : UInt8), (52 : UInt8), (53 : UInt8), (54 : UInt8), (55 : UInt8), (56 : UInt8), (57 : UInt8)] : List UInt8)))), ())
 else none
 else
 some ((List.take ((Int.toNat (IntKind.wrap .i64 ((Int.tmod m (10 : Int)) + (1 : Int)))) - (Int.toNat (Int.tmod m (10 : Int)))) (List.drop (Int.toNat (Int.tmod m (10 : Int))) ([(48 : UInt8), (49 : UInt8), (50 : UInt8), (51 : UInt8), (52 : UInt8), (53 : UInt8), (54 : UInt8), (55 : UInt8), (56 : UInt8), (57 : UInt8)] : List UInt8))), ())
 else none
 else none
noncomputable def digitsR_bit (Fr : Nat → Int → Option ((List UInt8) × Unit)) : FnIt := ⟨15, [(false, (.int .i64))], [(false, .str)], 1, fun n x => digitsR_b Fr n x.1⟩
theorem digitsR_bok (Fr : Nat → Int → Option ((List UInt8) × Unit)) (hFr : ∀ m, FnOK Tryz.prog hint shT (digitsR_or Fr) m) (n : Nat) : FnOK Tryz.prog hint shT (digitsR_bit Fr) n :=
 FnOK.of (hk := fun β => (Known.mk [(digitsR_or Fr)] []).hk β) (sh := shT) (fun m _ => KnownOK.hook (KnownOK.nil.fn hFr) m) (fun x => by kernel_rfl)
noncomputable def digitsR_d : Nat → Nat → Int → Option ((List UInt8) × Unit)
 | 0, _, _ => none
 | d + 1, n, m => bif Nat.ble 1 n then digitsR_b (digitsR_d d) (n - 1) m else none
noncomputable def digitsR (n : Nat) (m : Int) : Option ((List UInt8) × Unit) := digitsR_d n n m
noncomputable def digitsR_it : FnIt := ⟨15, [(false, (.int .i64))], [(false, .str)], 0, fun n x => digitsR n x.1⟩
theorem digitsR_ok (n : Nat) : FnOK Tryz.prog hint shT digitsR_it n :=
 FnOK.diag (f := 15) (pa := [(false, (.int .i64))]) (re := [(false, .str)]) (fun d n x => digitsR_d d n x.1) (FnOK.byDepth (f := 15) (pa := [(false, (.int .i64))]) (re := [(false, .str)]) (D := 1) (fun G n x => digitsR_b (fun n m => G n (m, ())) n x.1) _ (fun _ _ => rfl) (fun _ _ _ => rfl) (fun G h n => digitsR_bok (fun n m => G n (m, ())) h n)) n
noncomputable def L16_4_Xexit0 : Tm := ⟨[], [], 64, 64, 1000⟩
noncomputable def L16_4_Xret : Tm := ⟨[(4, .one (.bool))], [], 64, 64, 1000⟩
noncomputable def L16_4_T : Tm := ⟨[(0, .one (.lst sE)), (1, .one (.lst sE)), (5, .one (.int .i64))], [], 64, 64, 1000⟩
noncomputable def L16_4 : Nat → qE → qE → Int → Option ((Unit × Unit) ⊕ ((Bool × Unit) × Unit))
 | 0, _, _, _ => none
 | n + 1, t0, t1, t5 =>
 bif (ilt t5 (len t0)) then
  bif (ile (0 : Int) t5) then
  Option.bind (t0[(Int.toNat t5)]?) fun x4 =>
  bif (ile (0 : Int) t5) then
  Option.bind (t1[(Int.toNat t5)]?) fun x5 =>
  bif (!((x4.1 == x5.1) && ((x4.2.1 == x5.2.1) && ((x4.2.2.1 == x5.2.2.1) && ((x4.2.2.2.1 == x5.2.2.2.1) && ((x4.2.2.2.2.1 == x5.2.2.2.2.1) && ((x4.2.2.2.2.2 == x5.2.2.2.2.2) && true))))))) then
  some (.inr ((false, ()), ()))
  else
  L16_4 n t0 t1 (IntKind.wrap .i64 (t5 + (1 : Int)))
  else none
  else none
 else
 some (.inl ((), ()))
noncomputable def L16_4_it : LoopIt := ⟨16, 4, none, L16_4_T, [(.exit 0, L16_4_Xexit0), (.ret, L16_4_Xret)], 0, fun n x => L16_4 n x.1.1 x.1.2.1 x.1.2.2.1, []⟩
theorem L16_4_Xexit0_ok : L16_4_Xexit0.ok Tryz.prog hint := Tm.okS rfl
theorem L16_4_Xret_ok : L16_4_Xret.ok Tryz.prog hint := Tm.okS rfl
theorem L16_4_T_ok : L16_4_T.ok Tryz.prog hint := Tm.okS rfl
theorem L16_4_ok : ∀ n, LoopOK Tryz.prog hint shT L16_4_it n :=
 LoopOK.of (hk := fun β => (Known.mk [] []).hk β) (sh := shT) (OneLoop.of (by kernel_rfl)) L16_4_T_ok ⟨⟨L16_4_Xexit0_ok, Nat.le_refl _, Nat.le_refl _⟩, ⟨L16_4_Xret_ok, Nat.le_refl _, Nat.le_refl _⟩, trivial⟩ (fun m => KnownOK.hook KnownOK.nil m)
  (fun _ => by kernel_rfl) (fun m x => by kernel_rfl)
noncomputable def sameEvents (n : Nat) (a : List (Int × (List UInt8 × (List UInt8 × (List UInt8 × (Int × Bool)))))) (b : List (Int × (List UInt8 × (List UInt8 × (List UInt8 × (Int × Bool)))))) : Option (Bool × Unit) :=
 bif ((len a) != (len b)) then
 some (false, ())
 else
 Option.bind (L16_4 (n + 1) a b (0 : Int)) fun y6 =>
 match y6 with
 | .inl _ =>
  some (true, ())
 | .inr y8 =>
  some (y8.1.1, ())
noncomputable def sameEvents_it : FnIt := ⟨16, [(false, (.slc sE)), (false, (.slc sE))], [(false, .bool)], 1, fun n x => sameEvents n x.1 x.2.1⟩
theorem sameEvents_ok (n : Nat) : FnOK Tryz.prog hint shT sameEvents_it n :=
 FnOK.of (hk := fun β => (Known.mk [] [L16_4_it]).hk β) (sh := shT) (fun m _ => KnownOK.hook (KnownOK.nil.loop L16_4_ok L16_4_T_ok) m) (fun x => by kernel_rfl)
end Go.Proofs.YteknbnkjelmfaaaGreatDoor
/- Graphs that are right: what the program tells; maps. -/
namespace Go.Proofs.YteknbnkjelmfaaaGreatDoor
open Go Go.Iv Go.Gv
abbrev Nod := Int × (List UInt8 × (List UInt8 × (List Int × Bool)))
abbrev Evt := Int × (List UInt8 × (List UInt8 × (List UInt8 × (Int × Bool))))
def tagStr : List UInt8 := [116, 97, 103, 58, 121, 97, 109, 108, 46, 111, 114, 103, 44, 50, 48, 48, 50, 58, 115, 116, 114]
def tagSeq : List UInt8 := [116, 97, 103, 58, 121, 97, 109, 108, 46, 111, 114, 103, 44, 50, 48, 48, 50, 58, 115, 101, 113]
theorem valid_seq0 (k : Nat) : valid (k + 60) tagSeq = some (true, ()) := by kernel_rfl
theorem valid_seq {n : Nat} (hn : 60 ≤ n) : valid n tagSeq = some (true, ()) := by
 obtain ⟨k, rfl⟩ : ∃ k, n = k + 60 := ⟨n - 60, by omega⟩
 exact valid_seq0 k
theorem node_seq {n : Nat} (hn : 60 ≤ n) (l : List Int) : node n (2, (tagSeq, ([], (l, false)))) = some (true, ()) := by
 unfold node
 have e1 : ilt 1000 (len tagSeq) = false := by decide
 have e2 : (tagSeq == [33]) = false := by decide
 simp only [e1, cond_false]
 rw [show ((tagSeq == ([(33 : UInt8)] : List UInt8)) = false) from e2]
 rw [valid_seq hn]
 rfl
theorem L31_2_spec (g : List Nod) (rt l : List Int) (hl : ∀ c ∈ l, 0 ≤ c ∧ c < (g.length : Int)) (hb : l.length ≤ 100000) : ∀ (k n : Nat) (t : Int), 0 ≤ t → t + k = l.length → k < n →
  L31_2 n l (len l) t g rt = some (.inl ((), ((g, (rt, ())), ()))) := by
 intro k
 induction k with
 | zero =>
  intro n t h0 h1 hn
  cases n with
  | zero => omega
  | succ n =>
   have e1 : ilt t (len l) = false := ilt_f (by unfold len; omega)
   simp only [L31_2, e1, cond_false]
 | succ k ih =>
  intro n t h0 h1 hn
  cases n with
  | zero => omega
  | succ n =>
   have e1 : ilt t (len l) = true := ilt_t (by unfold len; omega)
   have e2 : ile 0 t = true := ile_t h0
   have hlt : t.toNat < l.length := by omega
   have e3 : l[t.toNat]? = some l[t.toNat] := List.getElem?_eq_getElem hlt
   have hc := hl _ (List.getElem_mem hlt)
   generalize l[t.toNat] = c at e3 hc
   have e4 : ilt c 0 = false := ilt_f (by omega)
   have e5 : ile (len g) c = false := by rw [ile_eq]; exact decide_eq_false (by unfold len; omega)
   have w : IntKind.wrap .i64 (t + 1) = t + 1 := wrap_id (by omega) (by omega)
   simp only [L31_2, e1, e2, e3, e4, e5, w, cond_true, cond_false, Option.bind_some]
   exact ih n (t + 1) (by omega) (by omega) (by omega)
theorem are_spec {n : Nat} (g : List Nod) (rt l : List Int) (hl : ∀ c ∈ l, 0 ≤ c ∧ c < (g.length : Int)) (hb : l.length ≤ 100000) (hn : l.length ≤ n) : are n (g, rt) l = some (true, ()) := by
 unfold are
 rw [L31_2_spec g rt l hl hb l.length (n + 1) 0 (Int.le_refl _) (by omega) (by omega)]
 rfl
theorem L17_5_spec (g : List Nod) (rt : List Int) (K : Nat) (hg : g.length ≤ 20000) (hK : K * g.length ≤ 20000) (hx : ∀ (j : Nat) x, g[j]? = some x → (∀ n, 200 ≤ n → node n x = some (true, ())) ∧ x.2.2.2.1.length ≤ K ∧ ∀ c ∈ x.2.2.2.1, 0 ≤ c ∧ c < (g.length : Int)) : ∀ (k n : Nat) (t3 t : Int), 0 ≤ t → t + k = g.length → 0 ≤ t3 → t3 ≤ K * t → K + k + 200 < n →
  L17_5 n t3 g (len g) t g rt = some (.inl ((), ((g, (rt, ())), ()))) := by
 intro k
 induction k with
 | zero =>
  intro n t3 t h0 h1 h2 h3 hn
  cases n with
  | zero => omega
  | succ n =>
   have e1 : ilt t (len g) = false := ilt_f (by unfold len; omega)
   simp only [L17_5, e1, cond_false]
 | succ k ih =>
  intro n t3 t h0 h1 h2 h3 hn
  cases n with
  | zero => omega
  | succ n =>
   have e1 : ilt t (len g) = true := ilt_t (by unfold len; omega)
   have e2 : ile 0 t = true := ile_t h0
   have hlt : t.toNat < g.length := by omega
   have e3 : g[t.toNat]? = some g[t.toNat] := List.getElem?_eq_getElem hlt
   obtain ⟨x1, x2, x3⟩ := hx _ _ e3
   generalize g[t.toNat] = x at e3 x1 x2 x3
   have hm : (K : Int) * (t + 1) ≤ 20000 := by
    have a1 : (K : Int) * (t + 1) ≤ K * g.length := Int.mul_le_mul_of_nonneg_left (by omega) (by omega)
    have a2 : ((K * g.length : Nat) : Int) = (K : Int) * g.length := by simp
    omega
   have hm2 : (K : Int) * (t + 1) = K * t + K := by rw [Int.mul_add, Int.mul_one]
   have w1 : IntKind.wrap .i64 (t3 + len x.2.2.2.1) = t3 + len x.2.2.2.1 := wrap_id (by unfold len; omega) (by unfold len; omega)
   have w2 : IntKind.wrap .i64 (t + 1) = t + 1 := wrap_id (by omega) (by omega)
   have e4 : ilt 20000 (t3 + len x.2.2.2.1) = false := ilt_f (by unfold len; omega)
   have e5 : node (n + 1) (x.1, (x.2.1, (x.2.2.1, (x.2.2.2.1, x.2.2.2.2)))) = some (true, ()) := x1 (n + 1) (by omega)
   have hKs : K ≤ 20000 := by
    have : K * 1 ≤ K * g.length := Nat.mul_le_mul_left K (by omega)
    omega
   have e6 := are_spec (n := n + 6) g rt x.2.2.2.1 x3 (by omega) (by omega)
   simp only [L17_5, e1, e2, e3, w1, w2, e4, e5, e6, cond_true, cond_false, Option.bind_some, Bool.not_true]
   exact ih n _ (t + 1) (by omega) (by omega) (by unfold len; omega) (by unfold len; omega) (by omega)
theorem right_spec {n : Nat} (g : List Nod) (rt : List Int) (K : Nat) (hg : g.length ≤ 20000) (hK : K * g.length ≤ 20000) (hr : ∀ c ∈ rt, 0 ≤ c ∧ c < (g.length : Int)) (hrl : rt.length ≤ 20000) (hx : ∀ (j : Nat) x, g[j]? = some x → (∀ n, 200 ≤ n → node n x = some (true, ())) ∧ x.2.2.2.1.length ≤ K ∧ ∀ c ∈ x.2.2.2.1, 0 ≤ c ∧ c < (g.length : Int)) (hn : K + g.length + rt.length + 201 ≤ n) : right n (g, rt) = some (true, ()) := by
 unfold right
 have e1 : ilt 20000 (len g) = false := ilt_f (by unfold len; omega)
 have e2 : ilt 20000 (len rt) = false := ilt_f (by unfold len; omega)
 simp only [e1, e2, cond_false]
 rw [are_spec g rt rt hr (by omega) (by omega)]
 simp only [Option.bind_some, Bool.not_true, cond_false]
 rw [L17_5_spec g rt K hg hK hx g.length n 0 0 (Int.le_refl _) (by omega) (Int.le_refl _) (by omega) (by omega)]
 rfl
abbrev KI : Sh := .int .i64
theorem mget_cons {β : Type} (a : Int) (b : β) (r : List (Int × β)) (z : Int) : mget KI ((a, b) :: r) z = if z = a then some b else mget KI r z := by
 show (bif Sh.eqK KI z a then some b else mget KI r z) = _
 by_cases h : z = a
 ·rw [if_pos h, show Sh.eqK KI z a = true from by subst h; exact beq_self_eq_true z]; rfl
 ·rw [if_neg h, show Sh.eqK KI z a = false from beq_false_of_ne h]; rfl
theorem mput_cons {β : Type} (a : Int) (b : β) (r : List (Int × β)) (x : Int) (y : β) : mput KI ((a, b) :: r) x y = if x = a then (x, y) :: r else (a, b) :: mput KI r x y := by
 show (bif Sh.eqK KI x a then (x, y) :: r else (a, b) :: mput KI r x y) = _
 by_cases h : x = a
 ·rw [if_pos h, show Sh.eqK KI x a = true from by subst h; exact beq_self_eq_true x]; rfl
 ·rw [if_neg h, show Sh.eqK KI x a = false from beq_false_of_ne h]; rfl
theorem mget_mput {β : Type} (x : Int) (y : β) (z : Int) : ∀ l : List (Int × β), mget KI (mput KI l x y) z = if z = x then some y else mget KI l z := by
 intro l
 induction l with
 | nil => exact mget_cons x y [] z
 | cons p r ih =>
  obtain ⟨a, b⟩ := p
  rw [mput_cons, mget_cons]
  by_cases hxa : x = a
  ·rw [if_pos hxa, mget_cons]
   by_cases h : z = x
   ·rw [if_pos h, if_pos h]
   ·rw [if_neg h, if_neg h, if_neg (fun e => h (e.trans hxa.symm))]
  ·rw [if_neg hxa, mget_cons, ih]
   by_cases h : z = a
   ·rw [if_pos h, if_pos h, if_neg (fun e => hxa (e.symm.trans h))]
   ·rw [if_neg h, if_neg h]
theorem mgetD_mput {β : Type} (l : List (Int × β)) (x : Int) (y : β) (z : Int) (d : β) : mgetD KI (mput KI l x y) z d = if z = x then y else mgetD KI l z d := by
 unfold mgetD
 rw [mget_mput]
 split <;> rfl
theorem mgetD_nil {β : Type} (z : Int) (d : β) : mgetD KI ([] : List (Int × β)) z d = d := rfl
end Go.Proofs.YteknbnkjelmfaaaGreatDoor
/- Plain functions for the program's. -/
namespace Go.Proofs.YteknbnkjelmfaaaGreatDoor
open Go Go.Iv Go.Gv
set_option maxRecDepth 100000
set_option linter.unusedVariables false
noncomputable def L5_17_70_Xexit2 : Tm := ⟨[(0, .one (.lst (.int .i64))), (1, .one (.int .i64)), (6, .one (.fix (TV.ptr 65 0))), (7, .one (.all 70 45 sE .ex)), (8, .one (.int .i64)), (9, .one (.int .i64))], [(65, .cells 25 [.nst 71 40 sN 3 3 (.int .i64) .no, .fix (TV.raw (Go.Value.slice (Option.none) 0 0))] true)], 70, 72, 2007⟩
noncomputable def L5_17_70_T : Tm := ⟨[(0, .one (.lst (.int .i64))), (1, .one (.int .i64)), (6, .one (.fix (TV.ptr 65 0))), (7, .one (.all 70 45 sE .ex)), (8, .one (.int .i64)), (9, .one (.int .i64)), (10, .one (.int .i64)), (11, .one (.str)), (12, .one (.int .i64))], [(65, .cells 25 [.nst 71 40 sN 3 3 (.int .i64) .no, .fix (TV.raw (Go.Value.slice (Option.none) 0 0))] true)], 70, 72, 2007⟩
noncomputable def L5_17_70 : Nat → (List Int) → Int → qE → Int → Int → Int → (List UInt8) → Int → qN → Option (((List Int) × (Int × (Unit × (qE × (Int × (Int × Unit)))))) × ((qN × (Unit × Unit)) × Unit))
 | 0, _, _, _, _, _, _, _, _, _ => none
 | n + 1, t0, t1, t7, t8, t9, t10, t11, t12, c65_0 =>
 bif (ilt t12 t10) then
  bif (ilt (0 : Int) (len c65_0)) then
  Option.bind (c65_0[0]?) fun x14 =>
  bif (room (((List.length x14.2.2.2.1) + (List.length ((IntKind.wrap .i64 (t9 + (1 : Int))) :: ([] : List Int)))) * 9)) then
  bif (ilt (0 : Int) (len c65_0)) then
  bif (t12 == (0 : Int)) then
  bif (room (((List.length t7) + (List.length (((7 : Int), (([(119 : UInt8)] : List UInt8), (([] : List UInt8), (t11, ((2 : Int), false))))) :: []))) * 73)) then
  L5_17_70 n t0 t1 (t7 ++ (((7 : Int), (([(119 : UInt8)] : List UInt8), (([] : List UInt8), (t11, ((2 : Int), false))))) :: [])) t8 t9 t10 t11 (IntKind.wrap .i64 (t12 + (1 : Int))) (List.set c65_0 0 (x14.1, (x14.2.1, (x14.2.2.1, ((x14.2.2.2.1 ++ ((IntKind.wrap .i64 (t9 + (1 : Int))) :: ([] : List Int))), x14.2.2.2.2)))))
  else none
  else
  bif (room (((List.length t7) + (List.length (((8 : Int), (([] : List UInt8), (([] : List UInt8), (t11, ((0 : Int), false))))) :: []))) * 73)) then
  L5_17_70 n t0 t1 (t7 ++ (((8 : Int), (([] : List UInt8), (([] : List UInt8), (t11, ((0 : Int), false))))) :: [])) t8 t9 t10 t11 (IntKind.wrap .i64 (t12 + (1 : Int))) (List.set c65_0 0 (x14.1, (x14.2.1, (x14.2.2.1, ((x14.2.2.2.1 ++ ((IntKind.wrap .i64 (t9 + (1 : Int))) :: ([] : List Int))), x14.2.2.2.2)))))
  else none
  else none
  else none
  else none
 else
 some ((t0, (t1, ((), (t7, (t8, (t9, ())))))), ((c65_0, ((), ())), ()))
noncomputable def L5_17_70_it : LoopIt := ⟨5, 17, none, L5_17_70_T, [(.exit 2, L5_17_70_Xexit2)], 0, fun n x => L5_17_70 n x.1.1 x.1.2.1 x.1.2.2.2.1 x.1.2.2.2.2.1 x.1.2.2.2.2.2.1 x.1.2.2.2.2.2.2.1 x.1.2.2.2.2.2.2.2.1 x.1.2.2.2.2.2.2.2.2.1 x.2.1.1, []⟩
theorem L5_17_70_Xexit2_ok : L5_17_70_Xexit2.ok Tryz.prog hint := Tm.okS rfl
theorem L5_17_70_T_ok : L5_17_70_T.ok Tryz.prog hint := Tm.okS rfl
theorem L5_17_70_ok : ∀ n, LoopOK Tryz.prog hint shT L5_17_70_it n :=
 LoopOK.of (hk := fun β => (Known.mk [] []).hk β) (sh := shT) (OneLoop.of (by kernel_rfl)) L5_17_70_T_ok ⟨⟨L5_17_70_Xexit2_ok, Nat.le_refl _, Nat.le_refl _⟩, trivial⟩ (fun m => KnownOK.hook KnownOK.nil m)
  (fun _ => by kernel_rfl) (fun m x => by kernel_rfl)
noncomputable def L5_8_Xexit0 : Tm := ⟨[(0, .one (.lst (.int .i64))), (1, .one (.int .i64)), (6, .one (.fix (TV.ptr 65 0))), (7, .one (.all 66 45 sE .ex))], [(65, .cells 25 [.nst 67 40 sN 3 3 (.int .i64) .no, .fix (TV.raw (Go.Value.slice (Option.none) 0 0))] true)], 66, 68, 1003⟩
noncomputable def L5_8_T : Tm := ⟨[(0, .one (.lst (.int .i64))), (1, .one (.int .i64)), (6, .one (.fix (TV.ptr 65 0))), (7, .one (.all 66 45 sE .ex)), (8, .one (.int .i64)), (9, .one (.int .i64))], [(65, .cells 25 [.nst 67 40 sN 3 3 (.int .i64) .no, .fix (TV.raw (Go.Value.slice (Option.none) 0 0))] true)], 66, 68, 1003⟩
noncomputable def L5_8 : Nat → (List Int) → Int → qE → Int → Int → qN → Option (((List Int) × (Int × (Unit × (qE × Unit)))) × ((qN × (Unit × Unit)) × Unit))
 | 0, _, _, _, _, _, _ => none
 | n + 1, t0, t1, t7, t8, t9, c65_0 =>
 bif (ilt t9 (len t0)) then
  bif (ile (0 : Int) t9) then
  Option.bind (t0[(Int.toNat t9)]?) fun x21 =>
  bif (room (((List.length c65_0) + (List.length (((1 : Int), (([(116 : UInt8), (97 : UInt8), (103 : UInt8), (58 : UInt8), (121 : UInt8), (97 : UInt8), (109 : UInt8), (108 : UInt8), (46 : UInt8), (111 : UInt8), (114 : UInt8), (103 : UInt8), (44 : UInt8), (50 : UInt8), (48 : UInt8), (48 : UInt8), (50 : UInt8), (58 : UInt8), (115 : UInt8), (116 : UInt8), (114 : UInt8)] : List UInt8), (([(119 : UInt8)] : List UInt8), (([] : List Int), false)))) :: []))) * 73)) then
  bif (ilt (1 : Int) (IntKind.wrap .i64 ((1 : Int) + (andI Go.IntKind.i64 x21 (3 : Int))))) then
  Option.bind (digitsR (n + 1) (IntKind.wrap .i64 (t8 + (1 : Int)))) fun y22 =>
  bif (room ((List.length ([(97 : UInt8)] : List UInt8)) + (List.length y22.1))) then
  Option.bind (L5_17_70 (n + 2) t0 t1 t7 (IntKind.wrap .i64 (t8 + (1 : Int))) t9 (IntKind.wrap .i64 ((1 : Int) + (andI Go.IntKind.i64 x21 (3 : Int)))) (([(97 : UInt8)] : List UInt8) ++ y22.1) (0 : Int) (c65_0 ++ (((1 : Int), (([(116 : UInt8), (97 : UInt8), (103 : UInt8), (58 : UInt8), (121 : UInt8), (97 : UInt8), (109 : UInt8), (108 : UInt8), (46 : UInt8), (111 : UInt8), (114 : UInt8), (103 : UInt8), (44 : UInt8), (50 : UInt8), (48 : UInt8), (48 : UInt8), (50 : UInt8), (58 : UInt8), (115 : UInt8), (116 : UInt8), (114 : UInt8)] : List UInt8), (([(119 : UInt8)] : List UInt8), (([] : List Int), false)))) :: []))) fun y23 =>
  L5_8 n y23.1.1 y23.1.2.1 y23.1.2.2.2.1 y23.1.2.2.2.2.1 (IntKind.wrap .i64 (y23.1.2.2.2.2.2.1 + (1 : Int))) y23.2.1.1
  else none
  else
  Option.bind (L5_17_70 (n + 2) t0 t1 t7 t8 t9 (IntKind.wrap .i64 ((1 : Int) + (andI Go.IntKind.i64 x21 (3 : Int)))) ([] : List UInt8) (0 : Int) (c65_0 ++ (((1 : Int), (([(116 : UInt8), (97 : UInt8), (103 : UInt8), (58 : UInt8), (121 : UInt8), (97 : UInt8), (109 : UInt8), (108 : UInt8), (46 : UInt8), (111 : UInt8), (114 : UInt8), (103 : UInt8), (44 : UInt8), (50 : UInt8), (48 : UInt8), (48 : UInt8), (50 : UInt8), (58 : UInt8), (115 : UInt8), (116 : UInt8), (114 : UInt8)] : List UInt8), (([(119 : UInt8)] : List UInt8), (([] : List Int), false)))) :: []))) fun y24 =>
  L5_8 n y24.1.1 y24.1.2.1 y24.1.2.2.2.1 y24.1.2.2.2.2.1 (IntKind.wrap .i64 (y24.1.2.2.2.2.2.1 + (1 : Int))) y24.2.1.1
  else none
  else none
 else
 some ((t0, (t1, ((), (t7, ())))), ((c65_0, ((), ())), ()))
noncomputable def L5_8_it : LoopIt := ⟨5, 8, none, L5_8_T, [(.exit 0, L5_8_Xexit0)], 1, fun n x => L5_8 n x.1.1 x.1.2.1 x.1.2.2.2.1 x.1.2.2.2.2.1 x.1.2.2.2.2.2.1 x.2.1.1, []⟩
theorem L5_8_Xexit0_ok : L5_8_Xexit0.ok Tryz.prog hint := Tm.okS rfl
theorem L5_8_T_ok : L5_8_T.ok Tryz.prog hint := Tm.okS rfl
theorem L5_8_ok : ∀ n, LoopOK Tryz.prog hint shT L5_8_it n :=
 LoopOK.of (hk := fun β => (Known.mk [digitsR_it] [L5_17_70_it]).hk β) (sh := shT) (OneLoop.of (by kernel_rfl)) L5_8_T_ok ⟨⟨L5_8_Xexit0_ok, Nat.le_refl _, Nat.le_refl _⟩, trivial⟩ (fun m => KnownOK.hook ((KnownOK.nil.fn digitsR_ok).loop L5_17_70_ok L5_17_70_T_ok) m)
  (fun _ => by kernel_rfl) (fun m x => by kernel_rfl)
noncomputable def L5_25_Xexit4 : Tm := ⟨[(6, .one (.fix (TV.ptr 65 0))), (13, .one (.all 68 45 sE .ex))], [(65, .cells 25 [.nst 69 40 sN 3 3 (.int .i64) .no, .all 70 3 (.int .i64) .ex] true)], 68, 71, 2004⟩
noncomputable def L5_25_T : Tm := ⟨[(0, .one (.lst (.int .i64))), (1, .one (.int .i64)), (6, .one (.fix (TV.ptr 65 0))), (7, .one (.all 68 45 sE .ex)), (13, .one (.all 69 45 sE .ex)), (14, .one (.int .i64))], [(65, .cells 25 [.nst 70 40 sN 3 3 (.int .i64) .no, .all 71 3 (.int .i64) .ex] true)], 68, 72, 2004⟩
noncomputable def L5_25 : Nat → (List Int) → Int → qE → qE → Int → qN → (List Int) → Option ((Unit × (qE × Unit)) × ((qN × ((List Int) × Unit)) × Unit))
 | 0, _, _, _, _, _, _, _ => none
 | n + 1, t0, t1, t7, t13, t14, c65_0, c65_1 =>
 bif (ilt t14 t1) then
  bif (room (((List.length c65_1) + (List.length ((0 : Int) :: ([] : List Int)))) * 9)) then
  bif (room (((List.length t13) + (List.length (((1 : Int), (([] : List UInt8), (([] : List UInt8), (([] : List UInt8), ((0 : Int), (ilt (0 : Int) t14)))))) :: (((3 : Int), (([] : List UInt8), (([] : List UInt8), (([] : List UInt8), ((0 : Int), ((len t0) == (0 : Int))))))) :: [])))) * 73)) then
  bif (room (((List.length (t13 ++ (((1 : Int), (([] : List UInt8), (([] : List UInt8), (([] : List UInt8), ((0 : Int), (ilt (0 : Int) t14)))))) :: (((3 : Int), (([] : List UInt8), (([] : List UInt8), (([] : List UInt8), ((0 : Int), ((len t0) == (0 : Int))))))) :: [])))) + (List.length t7)) * 73)) then
  bif (room (((List.length ((t13 ++ (((1 : Int), (([] : List UInt8), (([] : List UInt8), (([] : List UInt8), ((0 : Int), (ilt (0 : Int) t14)))))) :: (((3 : Int), (([] : List UInt8), (([] : List UInt8), (([] : List UInt8), ((0 : Int), ((len t0) == (0 : Int))))))) :: []))) ++ t7)) + (List.length (((4 : Int), (([] : List UInt8), (([] : List UInt8), (([] : List UInt8), ((0 : Int), false))))) :: (((2 : Int), (([] : List UInt8), (([] : List UInt8), (([] : List UInt8), ((0 : Int), false))))) :: [])))) * 73)) then
  L5_25 n t0 t1 t7 (((t13 ++ (((1 : Int), (([] : List UInt8), (([] : List UInt8), (([] : List UInt8), ((0 : Int), (ilt (0 : Int) t14)))))) :: (((3 : Int), (([] : List UInt8), (([] : List UInt8), (([] : List UInt8), ((0 : Int), ((len t0) == (0 : Int))))))) :: []))) ++ t7) ++ (((4 : Int), (([] : List UInt8), (([] : List UInt8), (([] : List UInt8), ((0 : Int), false))))) :: (((2 : Int), (([] : List UInt8), (([] : List UInt8), (([] : List UInt8), ((0 : Int), false))))) :: []))) (IntKind.wrap .i64 (t14 + (1 : Int))) c65_0 (c65_1 ++ ((0 : Int) :: ([] : List Int)))
  else none
  else none
  else none
  else none
 else
 some (((), (t13, ())), ((c65_0, (c65_1, ())), ()))
noncomputable def L5_25_it : LoopIt := ⟨5, 25, none, L5_25_T, [(.exit 4, L5_25_Xexit4)], 0, fun n x => L5_25 n x.1.1 x.1.2.1 x.1.2.2.2.1 x.1.2.2.2.2.1 x.1.2.2.2.2.2.1 x.2.1.1 x.2.1.2.1, []⟩
theorem L5_25_Xexit4_ok : L5_25_Xexit4.ok Tryz.prog hint := Tm.okS rfl
theorem L5_25_T_ok : L5_25_T.ok Tryz.prog hint := Tm.okS rfl
theorem L5_25_ok : ∀ n, LoopOK Tryz.prog hint shT L5_25_it n :=
 LoopOK.of (hk := fun β => (Known.mk [] []).hk β) (sh := shT) (OneLoop.of (by kernel_rfl)) L5_25_T_ok ⟨⟨L5_25_Xexit4_ok, Nat.le_refl _, Nat.le_refl _⟩, trivial⟩ (fun m => KnownOK.hook KnownOK.nil m)
  (fun _ => by kernel_rfl) (fun m x => by kernel_rfl)
noncomputable def anchors (n : Nat) (times : List Int) (docs : Int) : Option (Bool × Unit) :=
 Option.bind (bif (ilt (15 : Int) (len times)) then
  some true
 else
 bif (ilt docs (1 : Int)) then
  some true
 else
 some (ilt (4 : Int) docs)) fun b1 =>
 bif b1 then
 some (true, ())
 else
 Option.bind (L5_8 (n + 8) times docs [] (0 : Int) (0 : Int) (((2 : Int), (([(116 : UInt8), (97 : UInt8), (103 : UInt8), (58 : UInt8), (121 : UInt8), (97 : UInt8), (109 : UInt8), (108 : UInt8), (46 : UInt8), (111 : UInt8), (114 : UInt8), (103 : UInt8), (44 : UInt8), (50 : UInt8), (48 : UInt8), (48 : UInt8), (50 : UInt8), (58 : UInt8), (115 : UInt8), (101 : UInt8), (113 : UInt8)] : List UInt8), (([] : List UInt8), (([] : List Int), false)))) :: [])) fun y25 =>
 Option.bind (L5_25 (n + 9) y25.1.1 y25.1.2.1 y25.1.2.2.2.1 [] (0 : Int) y25.2.1.1 ([] : List Int)) fun y26 =>
 Option.bind (events n (y26.2.1.1, y26.2.1.2.1) ((0 : Int), ((0 : Int), ((2 : Int), (false, false))))) fun y27 =>
 bif (y27.2.1 == (0 : Int)) then
 Option.bind (sameEvents (n + 7) y27.1 y26.1.2.1) fun y28 =>
 some (y28.1, ())
 else
 some (false, ())
noncomputable def anchors_it : FnIt := ⟨5, [(false, (.slc (.int .i64))), (false, (.int .i64))], [(false, .bool)], 9, fun n x => anchors n x.1 x.2.1⟩
theorem anchors_ok (n : Nat) : FnOK Tryz.prog hint shT anchors_it n :=
 FnOK.of (hk := fun β => (Known.mk [sameEvents_it, events_it] [L5_25_it, L5_8_it]).hk β) (sh := shT) (fun m _ => KnownOK.hook ((((KnownOK.nil.loop L5_8_ok L5_8_T_ok).loop L5_25_ok L5_25_T_ok).fn events_ok).fn sameEvents_ok) m) (fun x => by kernel_rfl)
end Go.Proofs.YteknbnkjelmfaaaGreatDoor
/- Anchors: what the graph is, and what is wanted. -/
namespace Go.Proofs.YteknbnkjelmfaaaGreatDoor
open Go Go.Iv Go.Gv
def wTxt : List UInt8 := [119]
def wN : Nod := (1, (tagStr, (wTxt, ([], false))))
def evS (a : List UInt8) : Evt := (7, (wTxt, ([], (a, (2, false)))))
def evA (a : List UInt8) : Evt := (8, ([], ([], (a, (0, false)))))
def kk (x : Int) : Int := 1 + andI Go.IntKind.i64 x 3
theorem kk_ok (x : Int) : 1 ≤ kk x ∧ kk x ≤ 4 := by
 have h : (BitVec.ofInt 64 x &&& BitVec.ofInt 64 3).toNat ≤ 3 := by
  rw [BitVec.toNat_and]
  have : (BitVec.ofInt 64 3).toNat = 3 := by decide
  rw [this]
  exact Nat.and_le_right
 have e : andI Go.IntKind.i64 x 3 = (((BitVec.ofInt 64 x &&& BitVec.ofInt 64 3).toNat : Nat) : Int) := by
  have h2 : IntKind.wrap .i64 (((BitVec.ofInt 64 x &&& BitVec.ofInt 64 3).toNat : Nat) : Int) = (((BitVec.ofInt 64 x &&& BitVec.ofInt 64 3).toNat : Nat) : Int) := wrap_id (by omega) (by omega)
  exact h2
 unfold kk
 omega
def nmA (k : Int) : List UInt8 := [97] ++ Go.Lib.itoa k
def blk (a : List UInt8) (k : Nat) : List Evt := evS a :: List.replicate (k - 1) (evA a)
def kidsM : List Int → Int → List Int
 | [], _ => []
 | x :: r, i => List.replicate (kk x).toNat (i + 1) ++ kidsM r (i + 1)
def wantM : List Int → Int → List Evt
 | [], _ => []
 | x :: r, n => bif ilt 1 (kk x) then blk (nmA (n + 1)) (kk x).toNat ++ wantM r (n + 1) else blk [] (kk x).toNat ++ wantM r n
noncomputable def digOK (k i : Nat) : Bool := match digitsR (k + 3) (Int.ofNat i) with
 | some (t, _) => t == Go.Lib.itoa (Int.ofNat i)
 | none => false
theorem digits_all (k : Nat) : (List.range 20).all (digOK k) = true := by kernel_rfl
theorem digits_spec {n i : Nat} (hn : 3 ≤ n) (hi : i < 20) : digitsR n (i : Int) = some (Go.Lib.itoa (i : Int), ()) := by
 obtain ⟨k, rfl⟩ : ∃ k, n = k + 3 := ⟨n - 3, by omega⟩
 have h := List.all_eq_true.1 (digits_all k) i (List.mem_range.2 hi)
 unfold digOK at h
 show digitsR (k + 3) (Int.ofNat i) = some (Go.Lib.itoa (Int.ofNat i), ())
 cases hq : digitsR (k + 3) (Int.ofNat i) with
 | none => rw [hq] at h; cases h
 | some p => rw [hq] at h; obtain ⟨t, u⟩ := p; rw [eq_of_beq h]
theorem itoa_len {i : Nat} (hi : i < 20) : (Go.Lib.itoa (i : Int)).length ≤ 2 := by
 have h : (List.range 20).all (fun i => Nat.ble (Go.Lib.itoa (Int.ofNat i)).length 2) = true := by kernel_rfl
 exact Nat.le_of_ble_eq_true (List.all_eq_true.1 h i (List.mem_range.2 hi))
def rootN (l : List Int) : Nod := (2, (tagSeq, ([], (l, false))))
theorem L5_17_spec (t0 : List Int) (t1 t8 i : Int) (hi : 0 ≤ i) (hi2 : i < 20) (k : Nat) (hk : k ≤ 4) (a : List UInt8) : ∀ (r n : Nat) (t : Int) (w : List Evt) (l : List Int) (ns : List Nod), 0 ≤ t → t + r = k → r < n → w.length + r ≤ 1000 → l.length + r ≤ 1000 →
  L5_17_70 n t0 t1 w t8 i (k : Int) a t (rootN l :: ns) = some ((t0, (t1, ((), (w ++ (if t = 0 then (if r = 0 then [] else blk a r) else List.replicate r (evA a)), (t8, (i, ())))))), (((rootN (l ++ List.replicate r (i + 1)) :: ns), ((), ())), ())) := by
 intro r
 induction r with
 | zero =>
  intro n t w l ns h0 h1 hn h2 h3
  cases n with
  | zero => omega
  | succ n =>
   have e1 : ilt t (k : Int) = false := ilt_f (by omega)
   simp only [L5_17_70, e1, cond_false, List.replicate_zero, List.append_nil, if_true, ite_self]
 | succ r ih =>
  intro n t w l ns h0 h1 hn h2 h3
  cases n with
  | zero => omega
  | succ n =>
   have e1 : ilt t (k : Int) = true := ilt_t (by omega)
   have e2 : ilt 0 (len (rootN l :: ns)) = true := ilt_t (by unfold len; simp only [List.length_cons]; omega)
   have e3 : (rootN l :: ns)[0]? = some (rootN l) := rfl
   have w1 : IntKind.wrap .i64 (i + 1) = i + 1 := wrap_id (by omega) (by omega)
   have w2 : IntKind.wrap .i64 (t + 1) = t + 1 := wrap_id (by omega) (by omega)
   have r1 : room ((List.length (rootN l).2.2.2.1 + List.length ((i + 1) :: ([] : List Int))) * 9) = true := room_ok (by
    show (l.length + 1) * 9 ≤ roomy
    unfold roomy; omega)
   have r2 : ∀ x : Evt, room ((w.length + List.length (x :: ([] : List Evt))) * 73) = true := fun x => room_ok (by simp; unfold roomy; omega)
   have hset : List.set (rootN l :: ns) 0 ((rootN l).1, ((rootN l).2.1, ((rootN l).2.2.1, ((rootN l).2.2.2.1 ++ [i + 1], (rootN l).2.2.2.2)))) = rootN (l ++ [i + 1]) :: ns := rfl
   have hrep : l ++ List.replicate (r + 1) (i + 1) = (l ++ [i + 1]) ++ List.replicate r (i + 1) := by rw [List.replicate_succ]; simp
   rw [L5_17_70]
   simp only [e1, e2, e3, w1, w2, r1, cond_true, Option.bind_some, hset, r2]
   by_cases ht : t = 0
   ·subst ht
    have e4 : ((0 : Int) == 0) = true := rfl
    simp only [e4, cond_true]
    have := ih n (0 + 1) (w ++ [evS a]) (l ++ [i + 1]) ns (by omega) (by omega) (by omega) (by simp; omega) (by simp; omega)
    rw [if_neg (by omega)] at this
    rw [if_pos trivial, if_neg (by omega), hrep]
    rw [show w ++ blk a (r + 1) = w ++ [evS a] ++ List.replicate r (evA a) by simp [blk]]
    exact this
   ·have e4 : (t == 0) = false := by simp [ht]
    simp only [e4, cond_false]
    have := ih n (t + 1) (w ++ [evA a]) (l ++ [i + 1]) ns (by omega) (by omega) (by omega) (by simp; omega) (by simp; omega)
    rw [if_neg (by omega)] at this
    rw [if_neg ht, hrep]
    rw [show w ++ List.replicate (r + 1) (evA a) = w ++ [evA a] ++ List.replicate r (evA a) by rw [List.replicate_succ]; simp]
    exact this
theorem L5_8_spec (t0 : List Int) (ht0 : t0.length ≤ 15) (t1 : Int) : ∀ (r n : Nat) (i m : Int) (w : List Evt) (l : List Int) (ns : List Nod), 0 ≤ i → i + r = t0.length → r + 20 < n → 0 ≤ m → m ≤ i → w.length ≤ 4 * i → l.length ≤ 4 * i → ns.length = i →
  L5_8 n t0 t1 w m i (rootN l :: ns) = some ((t0, (t1, ((), (w ++ wantM (t0.drop i.toNat) m, ())))), (((rootN (l ++ kidsM (t0.drop i.toNat) i) :: (ns ++ List.replicate r wN)), ((), ())), ())) := by
 intro r
 induction r with
 | zero =>
  intro n i m w l ns h0 h1 hn h2 h3 h4 h5 h6
  cases n with
  | zero => omega
  | succ n =>
   have e1 : ilt i (len t0) = false := ilt_f (by unfold len; omega)
   rw [L5_8]
   simp only [e1, cond_false]
   rw [List.drop_eq_nil_of_le (by omega)]
   simp [wantM, kidsM]
 | succ r ih =>
  intro n i m w l ns h0 h1 hn h2 h3 h4 h5 h6
  cases n with
  | zero => omega
  | succ n =>
   have e1 : ilt i (len t0) = true := ilt_t (by unfold len; omega)
   have e2 : ile 0 i = true := ile_t h0
   have hlt : i.toNat < t0.length := by omega
   have e3 : t0[i.toNat]? = some t0[i.toNat] := List.getElem?_eq_getElem hlt
   have hdr : t0.drop i.toNat = t0[i.toNat] :: t0.drop (i + 1).toNat := by
    rw [List.drop_eq_getElem_cons hlt, show (i + 1).toNat = i.toNat + 1 by omega]
   generalize t0[i.toNat] = x at e3 hdr
   have hk := kk_ok x
   have hkk : (((kk x).toNat : Nat) : Int) = kk x := Int.toNat_of_nonneg (by omega)
   have w1 : IntKind.wrap .i64 (1 + andI Go.IntKind.i64 x 3) = kk x := wrap_id (by unfold kk at hk; omega) (by unfold kk at hk; omega)
   have w2 : IntKind.wrap .i64 (m + 1) = m + 1 := wrap_id (by omega) (by omega)
   have w3 : IntKind.wrap .i64 (i + 1) = i + 1 := wrap_id (by omega) (by omega)
   have r1 : room ((List.length (rootN l :: ns) + List.length (wN :: ([] : List Nod))) * 73) = true := room_ok (by simp; unfold roomy; omega)
   have r1' : room ((List.length (rootN l :: ns) + List.length (((1 : Int), (([116, 97, 103, 58, 121, 97, 109, 108, 46, 111, 114, 103, 44, 50, 48, 48, 50, 58, 115, 116, 114] : List UInt8), (([119] : List UInt8), (([] : List Int), false)))) :: ([] : List Nod))) * 73) = true := r1
   have happ : (rootN l :: ns) ++ [((1 : Int), (([116, 97, 103, 58, 121, 97, 109, 108, 46, 111, 114, 103, 44, 50, 48, 48, 50, 58, 115, 116, 114] : List UInt8), (([119] : List UInt8), (([] : List Int), false))))] = rootN l :: (ns ++ [wN]) := rfl
   have hnz : (kk x).toNat ≠ 0 := by omega
   have hns : ns ++ List.replicate (r + 1) wN = (ns ++ [wN]) ++ List.replicate r wN := by rw [List.replicate_succ]; simp
   rw [L5_8]
   simp only [e1, e2, e3, w1, w2, w3, r1', happ, cond_true, Option.bind_some]
   rw [hdr]
   simp only [wantM, kidsM]
   cases hc : ilt 1 (kk x) with
   | true =>
    simp only [cond_true]
    have hm : m + 1 = (((m + 1).toNat : Nat) : Int) := (Int.toNat_of_nonneg (by omega)).symm
    have hd : digitsR (n + 1) (m + 1) = some (Go.Lib.itoa (m + 1), ()) := by
     have := digits_spec (n := n + 1) (i := (m + 1).toNat) (by omega) (by omega)
     rwa [← hm] at this
    have hil : (Go.Lib.itoa (m + 1)).length ≤ 2 := by
     have := itoa_len (i := (m + 1).toNat) (by omega)
     rwa [← hm] at this
    have r3 : room (List.length ([97] : List UInt8) + List.length (Go.Lib.itoa (m + 1))) = true := room_ok (by simp; unfold roomy; omega)
    simp only [hd, Option.bind_some, r3, cond_true]
    have hL := L5_17_spec t0 t1 (m + 1) i h0 (by omega) (kk x).toNat (by omega) ([97] ++ Go.Lib.itoa (m + 1)) (kk x).toNat (n + 2) 0 w l (ns ++ [wN]) (Int.le_refl _) (by omega) (by omega) (by omega) (by omega)
    rw [hkk, if_pos rfl, if_neg hnz] at hL
    rw [hL]
    simp only [Option.bind_some, w3]
    have hb : (blk ([97] ++ Go.Lib.itoa (m + 1)) (kk x).toNat).length = (kk x).toNat := by simp only [blk, List.length_cons, List.length_replicate]; omega
    rw [ih n (i + 1) (m + 1) _ _ (ns ++ [wN]) (by omega) (by omega) (by omega) (by omega) (by omega) (by rw [List.length_append, hb]; omega) (by rw [List.length_append, List.length_replicate]; omega) (by simp; omega)]
    rw [hns, List.append_assoc, List.append_assoc]
    rfl
   | false =>
    simp only [cond_false]
    have hL := L5_17_spec t0 t1 m i h0 (by omega) (kk x).toNat (by omega) [] (kk x).toNat (n + 2) 0 w l (ns ++ [wN]) (Int.le_refl _) (by omega) (by omega) (by omega) (by omega)
    rw [hkk, if_pos rfl, if_neg hnz] at hL
    rw [hL]
    simp only [Option.bind_some, w3]
    have hb : (blk [] (kk x).toNat).length = (kk x).toNat := by simp only [blk, List.length_cons, List.length_replicate]; omega
    rw [ih n (i + 1) m _ _ (ns ++ [wN]) (by omega) (by omega) (by omega) (by omega) (by omega) (by rw [List.length_append, hb]; omega) (by rw [List.length_append, List.length_replicate]; omega) (by simp; omega)]
    rw [hns, List.append_assoc, List.append_assoc]
end Go.Proofs.YteknbnkjelmfaaaGreatDoor
/- Anchors: what is used, the events of the scalars. -/
namespace Go.Proofs.YteknbnkjelmfaaaGreatDoor
open Go Go.Iv Go.Gv
theorem valid_str0 (k : Nat) : valid (k + 60) tagStr = some (true, ()) := by kernel_rfl
theorem validD_w : Go.Lib.validD wTxt = true := by kernel_rfl
theorem node_w {n : Nat} (hn : 60 ≤ n) : node n wN = some (true, ()) := by
 obtain ⟨k, rfl⟩ : ∃ k, n = k + 60 := ⟨n - 60, by omega⟩
 have e1 : ilt 1000 (len tagStr) = false := by decide
 have e2 : (tagStr == ([(33 : UInt8)] : List UInt8)) = false := by decide
 unfold node wN
 simp only [e1, cond_false]
 rw [e2]
 simp only [cond_false, valid_str0, Option.bind_some]
 have e3 : textOk (k + 60 + 4) wTxt = some (true, ()) := by
  unfold textOk
  rw [validD_w]
  rfl
 have e4 : ((1 : Int) == 1) = true := rfl
 have e5 : (len ([] : List Int) == 0) = true := rfl
 simp only [Bool.not_true, cond_false, e4, e5, cond_true, e3, Option.bind_some]
theorem kidsM_len : ∀ (xs : List Int) (i : Int), (kidsM xs i).length ≤ 4 * xs.length := by
 intro xs
 induction xs with
 | nil => intro i; exact Nat.zero_le _
 | cons x r ih =>
  intro i
  have := kk_ok x
  have := ih (i + 1)
  simp only [kidsM, List.length_append, List.length_replicate, List.length_cons]
  omega
theorem kidsM_mem : ∀ (xs : List Int) (i : Int), ∀ c ∈ kidsM xs i, i < c ∧ c ≤ i + xs.length := by
 intro xs
 induction xs with
 | nil => intro i c h; cases h
 | cons x r ih =>
  intro i c h
  simp only [kidsM, List.mem_append] at h
  simp only [List.length_cons]
  rcases h with h | h
  ·have := List.eq_of_mem_replicate h; omega
  ·have := ih (i + 1) c h; omega
theorem kidsM_nil : ∀ (xs : List Int) (i : Int), (kidsM xs i = [] ↔ xs = []) := by
 intro xs i
 cases xs with
 | nil => simp [kidsM]
 | cons x r =>
  have := kk_ok x
  simp only [kidsM, List.append_eq_nil_iff, List.replicate_eq_nil_iff]
  constructor
  ·intro h; omega
  ·intro h; cases h
theorem kidsM_count : ∀ (xs : List Int) (i : Int) (j : Nat) x, xs[j]? = some x → ((kidsM xs i).count (i + 1 + j) : Int) = kk x := by
 intro xs
 induction xs with
 | nil => intro i j x h; cases h
 | cons y r ih =>
  intro i j x h
  simp only [kidsM, List.count_append]
  cases j with
  | zero =>
   simp at h
   subst h
   have hk := kk_ok y
   have h0 : (kidsM r (i + 1)).count (i + 1 + (0 : Nat)) = 0 := List.count_eq_zero.2 fun hm => by
    have := kidsM_mem r (i + 1) _ hm; omega
   rw [h0, show i + 1 + ((0 : Nat) : Int) = i + 1 by omega, List.count_replicate_self]
   omega
  | succ j =>
   simp at h
   have h1 := ih (i + 1) j x h
   have h0 : (List.replicate (kk y).toNat (i + 1)).count (i + 1 + ((j + 1 : Nat) : Int)) = 0 := List.count_eq_zero.2 fun hm => by
    have := List.eq_of_mem_replicate hm; omega
   rw [h0, show i + 1 + ((j + 1 : Nat) : Int) = i + 1 + 1 + j by omega]
   omega
theorem L56_6_gen (c0 : List Nod) (c1 : List Int) (c2 c3 c4 : Int) (c5 c6 : Bool) (c9 : Int) (c10 : List Evt) (m70 : List (Int × List UInt8)) (g : List Nod) (rt ks : List Int) : ∀ (r n : Nat) (t : Int) (w : List Int) (u : List (Int × Int)) (s : List (Int × Bool)), 0 ≤ t → t + r = ks.length → r < n → w.length + r ≤ 100000 → ks.length ≤ 1000 →
  (∀ x, 0 ≤ mgetD KI u x 0 ∧ mgetD KI u x 0 + r ≤ 100000) →
  ∃ w' u' s', L56_6_78 n w ks (len ks) t c0 c1 c2 c3 c4 c5 c6 c9 c10 u m70 g rt s = some (((), ((), ((), (w', ())))), ((c0, (c1, (c2, (c3, (c4, (c5, (c6, ((), ((), (c9, (c10, ()))))))))))), (((), ()), (u', (m70, ((g, (rt, ())), (((), ()), (s', ())))))))) ∧
   (∀ x, mgetD KI u' x 0 = mgetD KI u x 0 + ((ks.drop t.toNat).count x : Nat)) ∧ (∀ c ∈ w', c ∈ w ∨ c ∈ ks) ∧ w'.length ≤ w.length + r := by
 intro r
 induction r with
 | zero =>
  intro n t w u s h0 h1 hn h2 h3 hu
  cases n with
  | zero => omega
  | succ n =>
   have e1 : ilt t (len ks) = false := ilt_f (by unfold len; omega)
   refine ⟨w, u, s, by simp only [L56_6_78, e1, cond_false], fun x => ?_, fun c hc => .inl hc, by omega⟩
   rw [List.drop_eq_nil_of_le (by omega)]; simp
 | succ r ih =>
  intro n t w u s h0 h1 hn h2 h3 hu
  cases n with
  | zero => omega
  | succ n =>
   have e1 : ilt t (len ks) = true := ilt_t (by unfold len; omega)
   have e2 : ile 0 t = true := ile_t h0
   have hlt : t.toNat < ks.length := by omega
   have e3 : ks[t.toNat]? = some ks[t.toNat] := List.getElem?_eq_getElem hlt
   have hmem := List.getElem_mem hlt
   have hdr : ks.drop t.toNat = ks[t.toNat] :: ks.drop (t + 1).toNat := by
    rw [List.drop_eq_getElem_cons hlt, show (t + 1).toNat = t.toNat + 1 by omega]
   generalize ks[t.toNat] = c at e3 hdr hmem
   have w1 : IntKind.wrap .i64 (t + 1) = t + 1 := wrap_id (by omega) (by omega)
   have w2 : IntKind.wrap .i64 (mgetD KI u c 0 + 1) = mgetD KI u c 0 + 1 := wrap_id (by have := hu c; omega) (by have := hu c; omega)
   have r1 : room ((List.length w + List.length (c :: ([] : List Int))) * 9) = true := room_ok (by simp; unfold roomy; omega)
   have hu' : ∀ x, 0 ≤ mgetD KI (mput KI u c (mgetD KI u c 0 + 1)) x 0 ∧ mgetD KI (mput KI u c (mgetD KI u c 0 + 1)) x 0 + r ≤ 100000 := fun x => by
    rw [mgetD_mput]
    split
    ·have := hu c; omega
    ·have := hu x; omega
   have cnt : ∀ u' : List (Int × Int), (∀ x, mgetD KI u' x 0 = mgetD KI (mput KI u c (mgetD KI u c 0 + 1)) x 0 + ((ks.drop (t + 1).toNat).count x : Nat)) → ∀ x, mgetD KI u' x 0 = mgetD KI u x 0 + ((ks.drop t.toNat).count x : Nat) := fun u' hq x => by
    rw [hq x, mgetD_mput, hdr, List.count_cons]
    by_cases hx : x = c
    ·subst hx; simp; omega
    ·rw [if_neg hx]
     have : (c == x) = false := by simp; exact fun e => hx e.symm
     simp [this]
   rw [L56_6_78]
   simp only [e1, e2, e3, w1, w2, r1, cond_true, Option.bind_some]
   cases hs : mgetD KI s c false with
   | false =>
    simp only [Bool.not_false, cond_true]
    obtain ⟨w', u', s', q1, q2, q3, q4⟩ := ih n (t + 1) (w ++ [c]) (mput KI u c (mgetD KI u c 0 + 1)) (mput KI s c true) (by omega) (by omega) (by omega) (by simp; omega) h3 hu'
    refine ⟨w', u', s', q1, cnt u' q2, fun c' hc' => ?_, by simp at q4; omega⟩
    rcases q3 c' hc' with h | h
    ·rcases List.mem_append.1 h with h | h
     ·exact .inl h
     ·rw [List.mem_singleton.1 h]; exact .inr hmem
    ·exact .inr h
   | true =>
    simp only [Bool.not_true, cond_false]
    obtain ⟨w', u', s', q1, q2, q3, q4⟩ := ih n (t + 1) w (mput KI u c (mgetD KI u c 0 + 1)) s (by omega) (by omega) (by omega) (by omega) h3 hu'
    exact ⟨w', u', s', q1, cnt u' q2, q3, by omega⟩
theorem L56_2_leaf (c0 : List Nod) (c1 : List Int) (c2 c3 c4 : Int) (c5 c6 : Bool) (c9 : Int) (c10 : List Evt) (m70 : List (Int × List UInt8)) (g : List Nod) (rt : List Int) (u : List (Int × Int)) (s : List (Int × Bool)) : ∀ (r n : Nat) (w : List Int), w.length = r → r ≤ 1000 → r + 5 < n → (∀ c ∈ w, 0 ≤ c ∧ g[c.toNat]? = some wN) →
  L56_2_76 n w c0 c1 c2 c3 c4 c5 c6 c9 c10 u m70 g rt s = some ((), ((c0, (c1, (c2, (c3, (c4, (c5, (c6, ((), ((), (c9, (c10, ()))))))))))), (((), ()), (u, (m70, ((g, (rt, ())), (((), ()), (s, ())))))))) := by
 intro r
 induction r with
 | zero =>
  intro n w hw _ hn hc
  cases n with
  | zero => omega
  | succ n =>
   have : w = [] := List.eq_nil_of_length_eq_zero hw
   subst this
   have e1 : ilt 0 (len ([] : List Int)) = false := rfl
   simp only [L56_2_76, e1, cond_false]
 | succ r ih =>
  intro n w hw hr hn hc
  cases n with
  | zero => omega
  | succ n =>
   rcases List.eq_nil_or_concat w with rfl | ⟨w0, c, rfl⟩
   ·cases hw
   ·simp only [List.concat_eq_append] at hw hc ⊢
    simp only [List.length_append, List.length_singleton] at hw
    have hcc := hc c (by simp)
    have hln : len (w0 ++ [c]) = (w0.length : Int) + 1 := by unfold len; simp
    have w1 : IntKind.wrap .i64 ((w0.length : Int) + 1 - 1) = (w0.length : Int) := by rw [Int.add_sub_cancel]; exact wrap_id (by omega) (by omega)
    have e1 : ilt 0 ((w0.length : Int) + 1) = true := ilt_t (by omega)
    have e2 : ile 0 (w0.length : Int) = true := ile_t (by omega)
    have e3 : ilt (w0.length : Int) ((w0.length : Int) + 1) = true := ilt_t (by omega)
    have e4 : (w0 ++ [c])[w0.length]? = some c := by simp
    have e5 : ile (w0.length : Int) ((w0.length : Int) + 1) = true := ile_t (by omega)
    have e6 : ile 0 c = true := ile_t hcc.1
    have tk : List.take (w0.length - 0) (List.drop 0 (w0 ++ [c])) = w0 := by simp
    have e7 : ilt 0 (len ([] : List Int)) = false := rfl
    have ek : wN.2.2.2.1 = [] := rfl
    rw [L56_2_76]
    simp only [hln, w1, e1, e2, e3, e4, e5, e6, hcc.2, tk, ek, cond_true, Bool.and_self, Option.bind_some, Int.toNat_natCast]
    rw [L56_6_78]
    simp only [e7, cond_false, Option.bind_some]
    exact ih n w0 (by omega) (by omega) (by omega) fun c' hc' => hc c' (by simp [hc'])
abbrev MkT := (List Nod × (List Int × (Int × (Int × (Int × (Bool × (Bool × (Unit × (Unit × (Int × (List Evt × Unit))))))))))) × (List (Int × Int) × (List (Int × List UInt8) × Unit))
abbrev mkSt (g : List Nod) (rt : List Int) (c2 c3 c4 : Int) (c5 c6 : Bool) (c9 : Int) (c10 : List Evt) (u : List (Int × Int)) (nm : List (Int × List UInt8)) : MkT :=
 ((g, (rt, (c2, (c3, (c4, (c5, (c6, ((), ((), (c9, (c10, ()))))))))))), (u, (nm, ())))
abbrev FrT := Nat → Int → Bool → Int → List Nod → List Int → Int → Int → Int → Bool → Bool → Int → List Evt → List (Int × Int) → List (Int × List UInt8) → Option ((Int × Unit) × MkT)
theorem may_w0 (k : Nat) : may (k + 20) 2 wTxt false = some (true, ()) := by kernel_rfl
theorem may_w {n : Nat} (hn : 20 ≤ n) : may n 2 wTxt false = some (true, ()) := by
 obtain ⟨k, rfl⟩ : ∃ k, n = k + 20 := ⟨n - 20, by omega⟩
 exact may_w0 k
theorem mhas_mput {β : Type} (l : List (Int × β)) (x : Int) (y : β) (z : Int) : mhas KI (mput KI l x y) z = (decide (z = x) || mhas KI l z) := by
 unfold mhas
 rw [mget_mput]
 by_cases h : z = x <;> simp [h]
theorem mput_len {β : Type} (x : Int) (y : β) : ∀ l : List (Int × β), mhas KI l x = false → (mput KI l x y).length = l.length + 1 := by
 intro l
 induction l with
 | nil => intro _; rfl
 | cons p r ih =>
  intro h
  obtain ⟨a, b⟩ := p
  unfold mhas at h
  rw [mget_cons] at h
  by_cases hxa : x = a
  ·rw [if_pos hxa] at h; cases h
  ·rw [if_neg hxa] at h
   rw [mput_cons, if_neg hxa, List.length_cons, ih h, List.length_cons]
theorem in64_ok {i : Int} (h0 : 0 ≤ i) (h1 : i < 1000) : in64 i = true := by
 unfold in64
 rw [Go.Iv.ile_eq, Go.Iv.ile_eq]
 simp only [Bool.and_eq_true, decide_eq_true_eq]
 omega
theorem elided_str (n : Nat) : elided n 1 tagStr = some ([], ()) := rfl
theorem leaf_alias (d n : Nat) (c deep : Int) (g : List Nod) (rt : List Int) (c2 c3 c4 : Int) (c5 c6 : Bool) (c9 : Int) (out : List Evt) (u : List (Int × Int)) (nm : List (Int × List UInt8)) (hn : 5 ≤ n) (h : mhas KI nm c = true) (ho : out.length ≤ 10000) :
  plan_d (d + 1) n c false deep g rt c2 c3 c4 c5 c6 c9 out u nm = some ((0, ()), mkSt g rt c2 c3 c4 c5 c6 c9 (out ++ [evA (mgetD KI nm c [])]) u nm) := by
 have hb : Nat.ble 5 n = true := Nat.ble_eq_true_of_le hn
 have r : ∀ x : Evt, room ((out.length + List.length (x :: ([] : List Evt))) * 73) = true := fun x => room_ok (by simp; unfold roomy; omega)
 rw [plan_d, hb, cond_true]
 unfold plan_b
 simp only [h, cond_true, r]
 rfl
theorem leaf_first (d n : Nat) (c deep : Int) (hc : 0 ≤ c) (g : List Nod) (hg : g[c.toNat]? = some wN) (rt : List Int) (c2 c3 : Int) (c6 : Bool) (c9 : Int) (h9 : 0 ≤ c9) (h9' : c9 < 10000) (out : List Evt) (u : List (Int × Int)) (hu : mgetD KI u c 0 < 2) (nm : List (Int × List UInt8)) (hn : 30 ≤ n) (h : mhas KI nm c = false) (ho : out.length ≤ 10000) :
  plan_d (d + 1) n c false deep g rt c2 c3 2 false c6 c9 out u nm = some ((0, ()), mkSt g rt c2 c3 2 false c6 (c9 + 1) (out ++ [evS []]) u nm) := by
 have hb : Nat.ble 5 n = true := Nat.ble_eq_true_of_le (by omega)
 have e2 : ile 0 c = true := ile_t hc
 have e3 : (wN.1 != 1) = false := rfl
 have w : IntKind.wrap .i64 (c9 + 1) = c9 + 1 := wrap_id (by omega) (by omega)
 have e5 : ilt 20000 (c9 + 1) = false := ilt_f (by omega)
 have e6 : ilt (mgetD KI u c 0) 2 = true := ilt_t hu
 have e7 : ((2 : Int) != 1) = true := rfl
 have e8 : may (n - 5) 2 wN.2.2.1 false = some (true, ()) := may_w (by omega)
 have e9 : elided (n - 5 + 2) wN.1 wN.2.1 = some ([], ()) := elided_str _
 have r : ∀ x : Evt, room ((out.length + List.length (x :: ([] : List Evt))) * 73) = true := fun x => room_ok (by simp; unfold roomy; omega)
 rw [plan_d, hb, cond_true]
 unfold plan_b
 simp only [h, e2, hg, e3, w, e5, e6, e7, e8, e9, cond_true, cond_false, Option.bind_some, Bool.not_true, r]
 rfl
theorem leaf_anchor (d n : Nat) (c deep : Int) (hc : 0 ≤ c) (g : List Nod) (hg : g[c.toNat]? = some wN) (rt : List Int) (c2 c3 : Int) (c6 : Bool) (c9 : Int) (h9 : 0 ≤ c9) (h9' : c9 < 10000) (out : List Evt) (u : List (Int × Int)) (hu : 2 ≤ mgetD KI u c 0) (nm : List (Int × List UInt8)) (hnm : nm.length < 19) (hn : 30 ≤ n) (h : mhas KI nm c = false) (ho : out.length ≤ 10000) :
  plan_d (d + 1) n c false deep g rt c2 c3 2 false c6 c9 out u nm = some ((0, ()), mkSt g rt c2 c3 2 false c6 (c9 + 1) (out ++ [evS (nmA (nm.length + 1))]) u (mput KI nm c (nmA (nm.length + 1)))) := by
 have hb : Nat.ble 5 n = true := Nat.ble_eq_true_of_le (by omega)
 have e2 : ile 0 c = true := ile_t hc
 have e3 : (wN.1 != 1) = false := rfl
 have w : IntKind.wrap .i64 (c9 + 1) = c9 + 1 := wrap_id (by omega) (by omega)
 have e5 : ilt 20000 (c9 + 1) = false := ilt_f (by omega)
 have e6 : ilt (mgetD KI u c 0) 2 = false := ilt_f (by omega)
 have e7 : ((2 : Int) != 1) = true := rfl
 have e8 : may (n - 5) 2 wN.2.2.1 false = some (true, ()) := may_w (by omega)
 have e9 : elided (n - 5 + 2) wN.1 wN.2.1 = some ([], ()) := elided_str _
 have w2 : IntKind.wrap .i64 (len nm + 1) = nm.length + 1 := wrap_id (by unfold len; omega) (by unfold len; omega)
 have e10 : in64 ((nm.length : Int) + 1) = true := in64_ok (by omega) (by omega)
 have hil : (Go.Lib.itoa ((nm.length : Int) + 1)).length ≤ 2 := by
  have := itoa_len (i := nm.length + 1) (by omega)
  rwa [show ((nm.length + 1 : Nat) : Int) = (nm.length : Int) + 1 by omega] at this
 have r3 : room (List.length ([97] : List UInt8) + List.length (Go.Lib.itoa ((nm.length : Int) + 1))) = true := room_ok (by simp; unfold roomy; omega)
 have r : ∀ x : Evt, room ((out.length + List.length (x :: ([] : List Evt))) * 73) = true := fun x => room_ok (by simp; unfold roomy; omega)
 have hget : mgetD KI (mput KI nm c (nmA (nm.length + 1))) c [] = nmA (nm.length + 1) := by rw [mgetD_mput, if_pos rfl]
 rw [plan_d, hb, cond_true]
 unfold plan_b
 simp only [h, e2, hg, e3, w, e5, e6, e7, e8, e9, w2, e10, r3, cond_true, cond_false, Option.bind_some, Bool.not_true, r]
 have hn2 : ([(97 : UInt8)] ++ Go.Lib.itoa ((nm.length : Int) + 1)) = nmA (nm.length + 1) := rfl
 rw [hn2, hget]
 rfl
end Go.Proofs.YteknbnkjelmfaaaGreatDoor
/- Anchors: all scalars, all documents; what is computed is true. -/
namespace Go.Proofs.YteknbnkjelmfaaaGreatDoor
open Go Go.Iv Go.Gv
abbrev outL (g : List Nod) (rt : List Int) (c9 : Int) (out : List Evt) (u : List (Int × Int)) (nm : List (Int × List UInt8)) (ks : List Int) :=
 (some (.inl (((), ((3 : Int), ())), ((g, (rt, ((0 : Int), ((0 : Int), ((2 : Int), (false, (false, ((), ((), (c9, (out, ()))))))))))), (u, (nm, (((2 : Int), (tagSeq, (([] : List UInt8), (ks, (false, ()))))), ())))))) : Option (((Unit × (Int × Unit)) × ((List Nod × (List Int × (Int × (Int × (Int × (Bool × (Bool × (Unit × (Unit × (Int × (List Evt × Unit))))))))))) × (List (Int × Int) × (List (Int × List UInt8) × ((Int × (List UInt8 × (List UInt8 × (List Int × (Bool × Unit))))) × Unit))))) ⊕ ((Int × Unit) × ((List Nod × (List Int × (Int × (Int × (Int × (Bool × (Bool × (Unit × (Unit × (Int × (List Evt × Unit))))))))))) × (List (Int × Int) × (List (Int × List UInt8) × ((Int × (List UInt8 × (List UInt8 × (List Int × (Bool × Unit))))) × Unit)))))))
theorem L58_step (Fr : FrT) (n : Nat) (ks : List Int) (t c : Int) (ht : 0 ≤ t) (hb : t ≤ 10000) (hc : ks[t.toNat]? = some c) (g : List Nod) (rt : List Int) (c9 : Int) (out : List Evt) (u : List (Int × Int)) (nm : List (Int × List UInt8)) {c9' : Int} {out' : List Evt} {nm' : List (Int × List UInt8)}
  (h : Fr (n + 1) c false 1 g rt 0 0 2 false false c9 out u nm = some ((0, ()), mkSt g rt 0 0 2 false false c9' out' u nm')) :
  L58_6 Fr (n + 1) false 0 3 ks (len ks) t g rt 0 0 2 false false c9 out u nm 2 tagSeq [] ks false = L58_6 Fr n false 0 3 ks (len ks) (t + 1) g rt 0 0 2 false false c9' out' u nm' 2 tagSeq [] ks false := by
 have hlt := (List.getElem?_eq_some_iff.1 hc).1
 have e1 : ilt t (len ks) = true := ilt_t (by unfold len; omega)
 have e2 : ile 0 t = true := ile_t ht
 have w1 : IntKind.wrap .i64 ((0 : Int) + 1) = 1 := rfl
 have w2 : IntKind.wrap .i64 (t + 1) = t + 1 := wrap_id (by omega) (by omega)
 have e4 : ((2 : Int) == 3) = false := rfl
 have e5 : ((0 : Int) != 0) = false := rfl
 rw [L58_6]
 simp only [e1, e2, hc, e4, e5, w1, w2, h, cond_true, cond_false, Option.bind_some]
theorem L58_end2 (Fr : FrT) (n : Nat) (ks : List Int) (t : Int) (ht : (ks.length : Int) ≤ t) (g : List Nod) (rt : List Int) (c9 : Int) (out : List Evt) (u : List (Int × Int)) (nm : List (Int × List UInt8)) :
  L58_6 Fr (n + 1) false 0 3 ks (len ks) t g rt 0 0 2 false false c9 out u nm 2 tagSeq [] ks false = outL g rt c9 out u nm ks := by
 have e : ilt t (len ks) = false := ilt_f (by unfold len; omega)
 simp only [L58_6, e, cond_false]
theorem L58_alias (d : Nat) (ks : List Int) (g : List Nod) (rt : List Int) (c9 : Int) (u : List (Int × Int)) (nm : List (Int × List UInt8)) (c : Int) (hh : mhas KI nm c = true) : ∀ (q n : Nat) (t : Int) (out : List Evt), 0 ≤ t → t + q ≤ 5000 → (∀ j, j < q → ks[t.toNat + j]? = some c) → 10 ≤ n → out.length + q ≤ 5000 →
  L58_6 (plan_d (d + 1)) (n + q) false 0 3 ks (len ks) t g rt 0 0 2 false false c9 out u nm 2 tagSeq [] ks false = L58_6 (plan_d (d + 1)) n false 0 3 ks (len ks) (t + q) g rt 0 0 2 false false c9 (out ++ List.replicate q (evA (mgetD KI nm c []))) u nm 2 tagSeq [] ks false := by
 intro q
 induction q with
 | zero => intro n t out _ _ _ _ _; simp
 | succ q ih =>
  intro n t out h0 h1 hk hn ho
  have hc := hk 0 (by omega)
  rw [Nat.add_zero] at hc
  rw [show n + (q + 1) = (n + q) + 1 by omega, L58_step (plan_d (d + 1)) (n + q) ks t c h0 (by omega) hc g rt c9 out u nm (leaf_alias d (n + q + 1) c 1 g rt 0 0 2 false false c9 out u nm (by omega) hh (by omega))]
  rw [ih n (t + 1) (out ++ [evA (mgetD KI nm c [])]) (by omega) (by omega) (fun j hj => by
   have := hk (j + 1) (by omega)
   rw [show (t + 1).toNat + j = t.toNat + (j + 1) by omega]; exact this) hn (by simp; omega)]
  rw [show t + 1 + (q : Int) = t + ((q + 1 : Nat) : Int) by omega, List.replicate_succ, List.append_assoc]
  rfl
theorem drop_rep {ks R : List Int} {t k : Nat} {c : Int} (h : ks.drop t = List.replicate k c ++ R) : (∀ j, j < k → ks[t + j]? = some c) ∧ ks.drop (t + k) = R := by
 refine ⟨fun j hj => ?_, ?_⟩
 ·rw [← List.getElem?_drop, h, List.getElem?_append_left (by simpa using hj), List.getElem?_replicate, if_pos hj]
 ·rw [← List.drop_drop, h, List.drop_append_of_le_length (by simp)]
  simp
theorem L58_all (d : Nat) (ks : List Int) (hks : ks.length ≤ 100) (g : List Nod) (rt : List Int) (u : List (Int × Int)) (hg : ∀ c ∈ ks, 0 ≤ c ∧ g[c.toNat]? = some wN) : ∀ (xs : List Int) (i m : Int) (n : Nat) (t c9 : Int) (out : List Evt) (nm : List (Int × List UInt8)), ks.drop t.toNat = kidsM xs i → 0 ≤ t → t ≤ 100 → 0 ≤ i → xs.length ≤ 15 → 0 ≤ m → m + xs.length ≤ 15 → (nm.length : Int) = m →
  (∀ (j : Nat) x, xs[j]? = some x → mgetD KI u (i + 1 + j) 0 = kk x) → (∀ z, i < z → mhas KI nm z = false) → 100 + (kidsM xs i).length ≤ n → 0 ≤ c9 → c9 + xs.length ≤ 1000 → out.length + 4 * xs.length ≤ 3000 →
  ∃ nm', L58_6 (plan_d (d + 1)) n false 0 3 ks (len ks) t g rt 0 0 2 false false c9 out u nm 2 tagSeq [] ks false = outL g rt (c9 + xs.length) (out ++ wantM xs m) u nm' ks := by
 intro xs
 induction xs with
 | nil =>
  intro i m n t c9 out nm hd h0 h1 hi hx hm hmx hnm hu hz hn h9 h9' ho
  obtain ⟨n, rfl⟩ : ∃ k, n = k + 1 := ⟨n - 1, by omega⟩
  have hlen : (ks.length : Int) ≤ t := by
   have := List.drop_eq_nil_iff.1 hd
   omega
  refine ⟨nm, ?_⟩
  rw [L58_end2 (plan_d (d + 1)) n ks t hlen]
  simp [wantM]
 | cons x r ih =>
  intro i m n t c9 out nm hd h0 h1 hi hx hm hmx hnm hu hz hn h9 h9' ho
  have hk := kk_ok x
  simp only [kidsM] at hd hn
  simp only [List.length_append, List.length_replicate] at hn
  simp only [List.length_cons] at hx hmx h9' ho
  obtain ⟨hat, hrest⟩ := drop_rep hd
  have hc := hat 0 (by omega)
  rw [Nat.add_zero] at hc
  have hgc := hg (i + 1) (List.mem_of_getElem? hc)
  have hlt := (List.getElem?_eq_some_iff.1 hc).1
  have huc := hu 0 x rfl
  rw [show i + 1 + ((0 : Nat) : Int) = i + 1 by omega] at huc
  have hno := hz (i + 1) (by omega)
  obtain ⟨n, rfl⟩ : ∃ k, n = k + ((kk x).toNat - 1) + 1 := ⟨n - (kk x).toNat, by omega⟩
  have hat' : ∀ j, j < (kk x).toNat - 1 → ks[(t + 1).toNat + j]? = some (i + 1) := fun j hj => by
   have := hat (j + 1) (by omega)
   rw [show (t + 1).toNat + j = t.toNat + (j + 1) by omega]; exact this
  have hrest' : ks.drop (t + 1 + (((kk x).toNat - 1 : Nat) : Int)).toNat = kidsM r (i + 1) := by
   rw [show (t + 1 + (((kk x).toNat - 1 : Nat) : Int)).toNat = t.toNat + (kk x).toNat by omega]; exact hrest
  have htk : t.toNat + (kk x).toNat ≤ ks.length := by
   have := hat ((kk x).toNat - 1) (by omega)
   have := (List.getElem?_eq_some_iff.1 this).1
   omega
  have hu' : ∀ (j : Nat) y, r[j]? = some y → mgetD KI u (i + 1 + 1 + j) 0 = kk y := fun j y hy => by
   have := hu (j + 1) y hy
   rw [show i + 1 + 1 + (j : Int) = i + 1 + ((j + 1 : Nat) : Int) by omega]; exact this
  simp only [wantM]
  by_cases h1k : 1 < kk x
  ·rw [ilt_t h1k, cond_true]
   rw [L58_step (plan_d (d + 1)) (n + ((kk x).toNat - 1)) ks t (i + 1) h0 (by omega) hc g rt c9 out u nm (leaf_anchor d _ (i + 1) 1 hgc.1 g hgc.2 rt 0 0 false c9 h9 (by omega) out u (by omega) nm (by omega) (by omega) hno (by omega))]
   have hhas : mhas KI (mput KI nm (i + 1) (nmA (nm.length + 1))) (i + 1) = true := by rw [mhas_mput]; simp
   rw [L58_alias d ks g rt (c9 + 1) u (mput KI nm (i + 1) (nmA (nm.length + 1))) (i + 1) hhas ((kk x).toNat - 1) n (t + 1) _ (by omega) (by omega) hat' (by omega) (by simp; omega)]
   rw [mgetD_mput, if_pos rfl]
   obtain ⟨nm', q⟩ := ih (i + 1) (m + 1) n (t + 1 + (((kk x).toNat - 1 : Nat) : Int)) (c9 + 1) (out ++ [evS (nmA (nm.length + 1))] ++ List.replicate ((kk x).toNat - 1) (evA (nmA (nm.length + 1)))) (mput KI nm (i + 1) (nmA (nm.length + 1))) hrest' (by omega) (by omega) (by omega) (by omega) (by omega) (by omega) (by rw [mput_len _ _ _ hno]; omega) hu' (fun z hz' => by
    rw [mhas_mput, hz z (by omega)]; simp; omega) (by omega) (by omega) (by omega) (by simp; omega)
   refine ⟨nm', ?_⟩
   rw [q]
   simp only [List.length_cons, blk]
   rw [hnm, show c9 + 1 + (r.length : Int) = c9 + ((r.length + 1 : Nat) : Int) by omega]
   simp only [List.append_assoc, List.cons_append, List.nil_append]
  ·rw [ilt_f (by omega), cond_false]
   have hk1 : (kk x).toNat = 1 := by omega
   rw [L58_step (plan_d (d + 1)) (n + ((kk x).toNat - 1)) ks t (i + 1) h0 (by omega) hc g rt c9 out u nm (leaf_first d _ (i + 1) 1 hgc.1 g hgc.2 rt 0 0 false c9 h9 (by omega) out u (by omega) nm (by omega) hno (by omega))]
   rw [hk1] at hrest' ⊢
   obtain ⟨nm', q⟩ := ih (i + 1) m n (t + 1) (c9 + 1) (out ++ [evS []]) nm (by simpa using hrest') (by omega) (by omega) (by omega) (by omega) (by omega) (by omega) hnm hu' (fun z hz' => hz z (by omega)) (by omega) (by omega) (by omega) (by simp; omega)
   refine ⟨nm', ?_⟩
   rw [show n + (1 - 1) = n by omega, q]
   simp only [List.length_cons, blk]
   rw [show c9 + 1 + (r.length : Int) = c9 + ((r.length + 1 : Nat) : Int) by omega]
   simp [List.append_assoc]
def evB (fl : Bool) : Evt := (3, ([], ([], ([], (0, fl)))))
def evD (fl : Bool) : Evt := (1, ([], ([], ([], (0, fl)))))
def evE : Evt := (4, ([], ([], ([], (0, false)))))
def evF : Evt := (2, ([], ([], ([], (0, false)))))
def docsM (l0 : Bool) (w : List Evt) : Nat → Int → List Evt → List Evt
 | 0, _, out => out
 | k + 1, t, out => docsM l0 w k (t + 1) (out ++ [evD (ilt 0 t), evB l0] ++ w ++ [evE, evF])
theorem docsM_len (l0 : Bool) (w : List Evt) : ∀ (k : Nat) (t : Int) (out : List Evt), (docsM l0 w k t out).length = out.length + k * (w.length + 4) := by
 intro k
 induction k with
 | zero => intro t out; simp [docsM]
 | succ k ih =>
  intro t out
  simp only [docsM]
  rw [ih]
  simp only [List.length_append, List.length_cons, List.length_nil, Nat.add_mul, Nat.one_mul]
  omega
theorem wantM_len : ∀ (xs : List Int) (m : Int), (wantM xs m).length ≤ 4 * xs.length := by
 intro xs
 induction xs with
 | nil => intro m; exact Nat.zero_le _
 | cons x r ih =>
  intro m
  have hk := kk_ok x
  have hb : ∀ a, (blk a (kk x).toNat).length = (kk x).toNat := fun a => by simp only [blk, List.length_cons, List.length_replicate]; omega
  simp only [wantM, List.length_cons]
  cases ilt 1 (kk x) with
  | true => simp only [cond_true, List.length_append, hb]; have := ih (m + 1); omega
  | false => simp only [cond_false, List.length_append, hb]; have := ih m; omega
theorem L5_25_spec (t0 : List Int) (d : Int) (w : List Evt) (hw : w.length ≤ 100) (g : List Nod) : ∀ (r n : Nat) (t : Int) (out : List Evt) (rt : List Int), 0 ≤ t → t + r = d → d ≤ 4 → r < n → (rt.length : Int) = t → out.length ≤ 200 * t →
  L5_25 n t0 d w out t g rt = some (((), (docsM (len t0 == 0) w r t out, ())), ((g, (rt ++ List.replicate r 0, ())), ())) := by
 intro r
 induction r with
 | zero =>
  intro n t out rt h0 h1 h2 hn h3 h4
  cases n with
  | zero => omega
  | succ n =>
   have e1 : ilt t d = false := ilt_f (by omega)
   simp only [L5_25, e1, cond_false, docsM, List.replicate_zero, List.append_nil]
 | succ r ih =>
  intro n t out rt h0 h1 h2 hn h3 h4
  cases n with
  | zero => omega
  | succ n =>
   have e1 : ilt t d = true := ilt_t (by omega)
   have w1 : IntKind.wrap .i64 (t + 1) = t + 1 := wrap_id (by omega) (by omega)
   have r1 : room ((rt.length + List.length ((0 : Int) :: ([] : List Int))) * 9) = true := room_ok (by simp; unfold roomy; omega)
   have r2 : ∀ a b : Evt, room ((out.length + List.length (a :: b :: ([] : List Evt))) * 73) = true := fun a b => room_ok (by simp; unfold roomy; omega)
   have r3 : ∀ a b : Evt, room (((out ++ (a :: b :: ([] : List Evt))).length + w.length) * 73) = true := fun a b => room_ok (by simp; unfold roomy; omega)
   have r4 : ∀ a b e f : Evt, room ((((out ++ (a :: b :: ([] : List Evt))) ++ w).length + List.length (e :: f :: ([] : List Evt))) * 73) = true := fun a b e f => room_ok (by simp; unfold roomy; omega)
   rw [L5_25]
   simp only [e1, w1, r1, r2, r3, r4, cond_true]
   have := ih n (t + 1) (out ++ [evD (ilt 0 t), evB (len t0 == 0)] ++ w ++ [evE, evF]) (rt ++ [0]) (by omega) (by omega) h2 (by omega) (by simp; omega) (by simp; omega)
   simp only [docsM]
   rw [show rt ++ List.replicate (r + 1) 0 = (rt ++ [0]) ++ List.replicate r 0 by rw [List.replicate_succ]; simp]
   exact this
theorem root_plan (xs : List Int) (hx : xs.length ≤ 15) (g : List Nod) (hg0 : g[0]? = some (rootN (kidsM xs 0))) (hg : ∀ c ∈ kidsM xs 0, 0 ≤ c ∧ g[c.toNat]? = some wN) (rt : List Int) (u : List (Int × Int)) (hu0 : mgetD KI u 0 0 ≤ 1) (hu : ∀ (j : Nat) x, xs[j]? = some x → mgetD KI u (1 + j) 0 = kk x) (n : Nat) (hn : 300 ≤ n) (c9 : Int) (h9 : 0 ≤ c9) (h9' : c9 ≤ 500) (out : List Evt) (ho : out.length ≤ 1000) :
  ∃ nm', plan n 0 false 0 g rt 0 0 2 false false c9 out u [] = some ((0, ()), mkSt g rt 0 0 2 false false (c9 + 1 + xs.length) (out ++ [evB (len (kidsM xs 0) == 0)] ++ wantM xs 0 ++ [evE]) u nm') := by
 obtain ⟨n, rfl⟩ : ∃ k, n = k + 2 := ⟨n - 2, by omega⟩
 have hkl := kidsM_len xs 0
 have hwl := wantM_len xs 0
 have hb : Nat.ble 5 (n + 2) = true := Nat.ble_eq_true_of_le (by omega)
 have e1 : mhas KI ([] : List (Int × List UInt8)) 0 = false := rfl
 have e2 : ile 0 (0 : Int) = true := rfl
 have e3 : ((rootN (kidsM xs 0)).1 != 1) = true := rfl
 have e4 : ((0 : Int) == 200) = false := rfl
 have w : IntKind.wrap .i64 (c9 + 1) = c9 + 1 := wrap_id (by omega) (by omega)
 have e5 : ilt 20000 (c9 + 1) = false := ilt_f (by omega)
 have e6 : ilt (mgetD KI u 0 0) 2 = true := ilt_t (by omega)
 have e7 : ((rootN (kidsM xs 0)).1 == 3) = false := rfl
 have e8 : ∀ k, elided k (rootN (kidsM xs 0)).1 (rootN (kidsM xs 0)).2.1 = some ([], ()) := fun k => rfl
 have r : ∀ x : Evt, room ((out.length + List.length (x :: ([] : List Evt))) * 73) = true := fun x => room_ok (by simp; unfold roomy; omega)
 have ek : (rootN (kidsM xs 0)).2.2.2.1 = kidsM xs 0 := rfl
 obtain ⟨nm', q⟩ := L58_all n (kidsM xs 0) (by omega) g rt u hg xs 0 0 (n + 2 - 5 + 3) 0 (c9 + 1) (out ++ [evB (len (kidsM xs 0) == 0)]) [] rfl (Int.le_refl _) (by omega) (Int.le_refl _) hx (Int.le_refl _) (by omega) rfl (fun j x hj => by
  rw [show (0 : Int) + 1 + j = 1 + j by omega]; exact hu j x hj) (fun z _ => rfl) (by omega) (by omega) (by omega) (by simp; omega)
 refine ⟨nm', ?_⟩
 unfold plan
 rw [plan_d, hb, cond_true]
 unfold plan_b
 simp only [e1, e2, Int.toNat_zero, hg0, e3, e4, w, e5, e6, e7, e8, ek, r, cond_true, cond_false, Option.bind_some]
 have q' : L58_6 (plan_d (n + 1)) (n + 2 - 5 + 3) false 0 3 (kidsM xs 0) (len (kidsM xs 0)) 0 g rt 0 0 2 false false (c9 + 1) (out ++ [((3 : Int), (([] : List UInt8), (([] : List UInt8), (([] : List UInt8), ((0 : Int), (len (kidsM xs 0) == 0))))))]) u [] (rootN (kidsM xs 0)).1 (rootN (kidsM xs 0)).2.1 (rootN (kidsM xs 0)).2.2.1 (kidsM xs 0) (rootN (kidsM xs 0)).2.2.2.2 = outL g rt (c9 + 1 + xs.length) (out ++ [evB (len (kidsM xs 0) == 0)] ++ wantM xs 0) u nm' (kidsM xs 0) := q
 rw [q']
 have r1 : room (((out ++ [evB (len (kidsM xs 0) == 0)] ++ wantM xs 0).length + List.length ((IntKind.wrap .i64 ((3 : Int) + 1), (([] : List UInt8), (([] : List UInt8), (([] : List UInt8), ((0 : Int), false))))) :: ([] : List Evt))) * 73) = true := room_ok (by simp; unfold roomy; omega)
 simp only [outL, Option.bind_some, r1, cond_true]
 rfl
theorem L9_5_spec (xs : List Int) (hx : xs.length ≤ 15) (g : List Nod) (hg0 : g[0]? = some (rootN (kidsM xs 0))) (hg : ∀ c ∈ kidsM xs 0, 0 ≤ c ∧ g[c.toNat]? = some wN) (rt : List Int) (d : Nat) (hd : d ≤ 4) (hrt : rt = List.replicate d 0) : ∀ (r n : Nat) (t c9 : Int) (out : List Evt), 0 ≤ t → t + r = d → r + 400 < n → 0 ≤ c9 → c9 ≤ 20 * t → out.length ≤ 200 * t →
  ∃ c9', L9_5 n rt (len rt) t 0 0 2 false false g rt 0 0 2 false false c9 out = some (.inl (((), ()), ((0, (0, (2, (false, (false, ()))))), ((g, (rt, (0, (0, (2, (false, (false, ((), ((), (c9', (docsM (len (kidsM xs 0) == 0) (wantM xs 0) r t out, ()))))))))))), ())))) := by
 have hkl := kidsM_len xs 0
 have hwl := wantM_len xs 0
 have hlrt : len rt = d := by rw [hrt]; unfold len; simp
 intro r
 induction r with
 | zero =>
  intro n t c9 out h0 h1 hn h9 h9' ho
  cases n with
  | zero => omega
  | succ n =>
   have e1 : ilt t (len rt) = false := ilt_f (by omega)
   exact ⟨c9, by simp only [L9_5, e1, cond_false, docsM]⟩
 | succ r ih =>
  intro n t c9 out h0 h1 hn h9 h9' ho
  cases n with
  | zero => omega
  | succ n =>
   have e1 : ilt t (len rt) = true := ilt_t (by omega)
   have e2 : ile 0 t = true := ile_t h0
   have e3 : rt[t.toNat]? = some 0 := by rw [hrt, List.getElem?_replicate, if_pos (by omega)]
   have w1 : IntKind.wrap .i64 (t + 1) = t + 1 := wrap_id (by omega) (by omega)
   obtain ⟨w', u', s', a1, a2, a3, a4⟩ := L56_6_gen g rt 0 0 2 false false c9 out [] g rt (kidsM xs 0) (kidsM xs 0).length (n + 1) 0 [] (mput KI [] 0 1) (mput KI [] 0 true) (Int.le_refl _) (by omega) (by omega) (by simp; omega) (by omega) (fun x => by
    rw [mgetD_mput]; split
    ·omega
    ·rw [mgetD_nil]; omega)
   have hleaf := L56_2_leaf g rt 0 0 2 false false c9 out [] g rt u' s' w'.length n w' rfl (by simp at a4; omega) (by simp at a4; omega) (fun c hc => by
    rcases a3 c hc with h | h
    ·cases h
    ·exact hg c h)
   have huse : L56_2_76 (n + 1) [0] g rt 0 0 2 false false c9 out (mput KI [] 0 1) [] g rt (mput KI [] 0 true) = some ((), ((g, (rt, (0, (0, (2, (false, (false, ((), ((), (c9, (out, ()))))))))))), (((), ()), (u', ([], ((g, (rt, ())), (((), ()), (s', ())))))))) := by
    have f1 : ilt 0 (len [(0 : Int)]) = true := rfl
    have f2 : IntKind.wrap .i64 (len [(0 : Int)] - 1) = 0 := rfl
    have f3 : ile 0 (0 : Int) = true := rfl
    have f4 : ([(0 : Int)])[0]? = some 0 := rfl
    have f5 : ile 0 (len [(0 : Int)]) = true := rfl
    have ek : (rootN (kidsM xs 0)).2.2.2.1 = kidsM xs 0 := rfl
    rw [L56_2_76]
    simp only [f1, f2, f3, f4, f5, hg0, ek, cond_true, Bool.and_self, Option.bind_some, Int.toNat_zero, List.drop_zero, Nat.sub_self, List.take_zero]
    rw [a1]
    simp only [Option.bind_some]
    exact hleaf
   have hu0 : mgetD KI u' 0 0 ≤ 1 := by
    rw [a2 0, mgetD_mput, if_pos rfl]
    have : ((kidsM xs 0).drop (0 : Int).toNat).count 0 = 0 := List.count_eq_zero.2 fun hm => by
     have := kidsM_mem xs 0 0 (List.mem_of_mem_drop hm); omega
    rw [this]; omega
   have hu : ∀ (j : Nat) x, xs[j]? = some x → mgetD KI u' (1 + j) 0 = kk x := fun j x hj => by
    rw [a2, mgetD_mput, if_neg (show ¬ (1 + (j : Int)) = 0 by omega), mgetD_nil, Int.toNat_zero, List.drop_zero]
    have := kidsM_count xs 0 j x hj
    rw [show (0 : Int) + 1 + j = 1 + j by omega] at this
    omega
   obtain ⟨nm', p⟩ := root_plan xs hx g hg0 hg rt u' hu0 hu (n + 2) (by omega) c9 h9 (by omega) (out ++ [evD (ilt 0 t)]) (by simp; omega)
   have r1 : ∀ x : Evt, room ((out.length + List.length (x :: ([] : List Evt))) * 73) = true := fun x => room_ok (by simp; unfold roomy; omega)
   have r2 : ∀ x : Evt, room (((out ++ [evD (ilt 0 t)] ++ [evB (len (kidsM xs 0) == 0)] ++ wantM xs 0 ++ [evE]).length + List.length (x :: ([] : List Evt))) * 73) = true := fun x => room_ok (by simp; unfold roomy; omega)
   have e5 : ((0 : Int) != 0) = false := rfl
   rw [L9_5]
   simp only [e1, e2, e3, cond_true, cond_false, Option.bind_some]
   rw [huse]
   simp only [Option.bind_some, r1, cond_true]
   have p' : plan (n + 2) 0 false 0 g rt 0 0 2 false false c9 (out ++ [((1 : Int), (([] : List UInt8), (([] : List UInt8), (([] : List UInt8), ((0 : Int), (ilt 0 t))))))]) u' [] = some ((0, ()), mkSt g rt 0 0 2 false false (c9 + 1 + xs.length) (out ++ [evD (ilt 0 t)] ++ [evB (len (kidsM xs 0) == 0)] ++ wantM xs 0 ++ [evE]) u' nm') := p
   rw [p']
   simp only [Option.bind_some, r2, e5, w1, cond_true, cond_false]
   obtain ⟨c9', q⟩ := ih n (t + 1) (c9 + 1 + xs.length) (out ++ [evD (ilt 0 t), evB (len (kidsM xs 0) == 0)] ++ wantM xs 0 ++ [evE, evF]) (by omega) (by omega) (by omega) (by omega) (by omega) (by simp; omega)
   refine ⟨c9', ?_⟩
   simp only [docsM]
   rw [← q]
   have hl : (out ++ [evD (ilt 0 t)] ++ [evB (len (kidsM xs 0) == 0)] ++ wantM xs 0 ++ [evE]) ++ [((2 : Int), (([] : List UInt8), (([] : List UInt8), (([] : List UInt8), ((0 : Int), false)))))] = out ++ [evD (ilt 0 t), evB (len (kidsM xs 0) == 0)] ++ wantM xs 0 ++ [evE, evF] := by
    simp [evF, List.append_assoc]
   rw [← hl]
theorem sameEvents_refl {n : Nat} (a : List Evt) (ha : a.length ≤ 10000) (hn : a.length + 5 ≤ n) : sameEvents n a a = some (true, ()) := by
 have key : ∀ (r n : Nat) (t : Int), 0 ≤ t → t + r = a.length → r < n → L16_4 n a a t = some (.inl ((), ())) := by
  intro r
  induction r with
  | zero =>
   intro n t h0 h1 hn
   cases n with
   | zero => omega
   | succ n =>
    have e1 : ilt t (len a) = false := ilt_f (by unfold len; omega)
    simp only [L16_4, e1, cond_false]
  | succ r ih =>
   intro n t h0 h1 hn
   cases n with
   | zero => omega
   | succ n =>
    have e1 : ilt t (len a) = true := ilt_t (by unfold len; omega)
    have e2 : ile 0 t = true := ile_t h0
    have hlt : t.toNat < a.length := by omega
    have e3 : a[t.toNat]? = some a[t.toNat] := List.getElem?_eq_getElem hlt
    have w1 : IntKind.wrap .i64 (t + 1) = t + 1 := wrap_id (by omega) (by omega)
    simp only [L16_4, e1, e2, e3, w1, cond_true, Option.bind_some, beq_self_eq_true, Bool.and_self, Bool.not_true, cond_false]
    exact ih n (t + 1) (by omega) (by omega) (by omega)
 unfold sameEvents
 simp only [bne_self_eq_false, cond_false]
 rw [key a.length (n + 1) 0 (Int.le_refl _) (by omega) (by omega)]
 rfl
theorem anchors_spec (n : Nat) (hn : 3000 ≤ n) (times : List Int) (docs : Int) (_w0 : Sh.wf (.slc (.int .i64)) times) (_w1 : Sh.wf (.int .i64) docs) : anchors n times docs = some (true, ()) := by
 unfold anchors
 by_cases h1 : 15 < (times.length : Int)
 ·have e1 : ilt 15 (len times) = true := ilt_t h1
  simp only [e1, cond_true, Option.bind_some]
 ·have e1 : ilt 15 (len times) = false := ilt_f (by unfold len; omega)
  simp only [e1, cond_false]
  by_cases h2 : docs < 1
  ·simp only [ilt_t h2, cond_true, Option.bind_some]
  ·have e2 : ilt docs 1 = false := ilt_f (by omega)
   simp only [e2, cond_false]
   by_cases h3 : 4 < docs
   ·simp only [ilt_t h3, Option.bind_some, cond_true]
   ·have e3 : ilt 4 docs = false := ilt_f (by omega)
    simp only [e3, Option.bind_some, cond_false]
    have hA := L5_8_spec times (by omega) docs times.length (n + 8) 0 0 [] [] [] (Int.le_refl _) (by omega) (by omega) (Int.le_refl _) (Int.le_refl _) (by simp) (by simp) rfl
    simp only [List.nil_append, Int.toNat_zero, List.drop_zero] at hA
    have hA' : L5_8 (n + 8) times docs [] 0 0 [((2 : Int), (([116, 97, 103, 58, 121, 97, 109, 108, 46, 111, 114, 103, 44, 50, 48, 48, 50, 58, 115, 101, 113] : List UInt8), (([] : List UInt8), (([] : List Int), false))))] = _ := hA
    rw [hA']
    simp only [Option.bind_some]
    have hwl := wantM_len times 0
    have hkl := kidsM_len times 0
    have hB := L5_25_spec times docs (wantM times 0) (by omega) (rootN (kidsM times 0) :: List.replicate times.length wN) docs.toNat (n + 9) 0 [] [] (Int.le_refl _) (by omega) (by omega) (by omega) rfl (by simp)
    rw [hB]
    simp only [Option.bind_some, List.nil_append]
    have hg0 : (rootN (kidsM times 0) :: List.replicate times.length wN)[0]? = some (rootN (kidsM times 0)) := rfl
    have hglen : (rootN (kidsM times 0) :: List.replicate times.length wN).length = times.length + 1 := by simp
    have hg : ∀ c ∈ kidsM times 0, 0 ≤ c ∧ (rootN (kidsM times 0) :: List.replicate times.length wN)[c.toNat]? = some wN := fun c hc => by
     have hm := kidsM_mem times 0 c hc
     refine ⟨by omega, ?_⟩
     obtain ⟨k, hk⟩ : ∃ k, c.toNat = k + 1 := ⟨c.toNat - 1, by omega⟩
     rw [hk, List.getElem?_cons_succ, List.getElem?_replicate, if_pos (by omega)]
    have hright : right n (rootN (kidsM times 0) :: List.replicate times.length wN, List.replicate docs.toNat 0) = some (true, ()) := by
     refine right_spec _ _ 60 (by rw [hglen]; omega) (by rw [hglen]; omega) (fun c hc => ?_) (by rw [List.length_replicate]; omega) (fun j x hj => ?_) (by rw [hglen, List.length_replicate]; omega)
     ·have := List.eq_of_mem_replicate hc; rw [hglen]; omega
     ·cases j with
      | zero =>
       rw [hg0] at hj
       cases hj
       refine ⟨fun n hn => node_seq (by omega) _, ?_, fun c hc => ?_⟩
       ·show (kidsM times 0).length ≤ 60; omega
       ·have := kidsM_mem times 0 c hc; rw [hglen]; omega
      | succ j =>
       rw [List.getElem?_cons_succ, List.getElem?_replicate] at hj
       split at hj
       ·cases hj
        exact ⟨fun n hn => node_w (by omega), Nat.zero_le _, fun c hc => by cases hc⟩
       ·cases hj
    obtain ⟨c9', hL⟩ := L9_5_spec times (by omega) (rootN (kidsM times 0) :: List.replicate times.length wN) hg0 hg (List.replicate docs.toNat 0) docs.toNat (by omega) rfl docs.toNat (n + 5) 0 0 [] (Int.le_refl _) (by omega) (by omega) (Int.le_refl _) (by omega) (by simp)
    have hev : events n (rootN (kidsM times 0) :: List.replicate times.length wN, List.replicate docs.toNat 0) (0, (0, (2, (false, false)))) = some (docsM (len (kidsM times 0) == 0) (wantM times 0) docs.toNat 0 [], (0, ())) := by
     unfold events
     simp only [hright, Option.bind_some, Bool.not_true, cond_false]
     rw [hL]
     rfl
    rw [hev]
    have hz : (len (kidsM times 0) == 0) = (len times == 0) := by
     have := kidsM_nil times 0
     cases times with
     | nil => rfl
     | cons x r =>
      have hne : kidsM (x :: r) 0 ≠ [] := fun h => by have := this.1 h; cases this
      have a1 : (len (kidsM (x :: r) 0) == 0) = false := beq_false_of_ne fun h => hne (List.eq_nil_of_length_eq_zero (by unfold len at h; omega))
      have a2 : (len (x :: r) == 0) = false := beq_false_of_ne fun h => by unfold len at h; simp at h; omega
      rw [a1, a2]
    rw [hz]
    have e7 : ((0 : Int) == 0) = true := rfl
    have hdl := docsM_len (len times == 0) (wantM times 0) docs.toNat 0 []
    have hdl2 : docs.toNat * ((wantM times 0).length + 4) ≤ 4 * 64 := Nat.mul_le_mul (by omega) (by omega)
    simp only [List.length_nil] at hdl
    simp only [Option.bind_some, e7, cond_true]
    rw [sameEvents_refl _ (by omega) (by omega)]
    rfl
end Go.Proofs.YteknbnkjelmfaaaGreatDoor
/- Functions whose answers are told: by the kit's contracts. -/
namespace Go.Proofs.YteknbnkjelmfaaaGreatDoor
open Go Go.Iv Go.Gv Go.Shelf Go.Proofs
def lays171_ren : Go.Shelf.Ren := ⟨fun | 171 => 80 | 243 => 96 | 246 => 108 | 283 => 124 | 284 => 125 | 285 => 126 | 286 => 127 | 129 => 147 | 317 => 146 | 318 => 148 | 319 => 149 | 320 => 150 | 337 => 166 | 338 => 167 | n => n, fun | 3 => 3 | 9 => 9 | 2 => 2 | 4 => 4 | 171 => 135 | 0 => 0 | 53 => 128 | 37 => 96 | 5 => 5 | 173 => 138 | 212 => 150 | 51 => 151 | 20 => 20 | 213 => 152 | 46 => 123 | 232 => 179 | 233 => 180 | n => n, fun | 17 => 2 | 18 => 3 | 19 => 4 | n => n⟩
theorem lays171 : Go.Proofs.LaysM.n171 Tryz.prog lays171_ren := {
 mixed := by kernel_rfl
 f129 := Tryz.func147.trans (congrArg some (by kernel_rfl))
 f171 := Tryz.func80.trans (congrArg some (by kernel_rfl))
 f243 := Tryz.func96.trans (congrArg some (by kernel_rfl))
 f246 := Tryz.func108.trans (congrArg some (by kernel_rfl))
 f283 := Tryz.func124.trans (congrArg some (by kernel_rfl))
 f284 := Tryz.func125.trans (congrArg some (by kernel_rfl))
 f285 := Tryz.func126.trans (congrArg some (by kernel_rfl))
 f286 := Tryz.func127.trans (congrArg some (by kernel_rfl))
 f317 := Tryz.func146.trans (congrArg some (by kernel_rfl))
 f318 := Tryz.func148.trans (congrArg some (by kernel_rfl))
 f319 := Tryz.func149.trans (congrArg some (by kernel_rfl))
 f320 := Tryz.func150.trans (congrArg some (by kernel_rfl))
 f337 := Tryz.func166.trans (congrArg some (by kernel_rfl))
 f338 := Tryz.func167.trans (congrArg some (by kernel_rfl))
 t0 := Tryz.underlying0
 a0 := Tryz.isAgg0
 z0 := Tryz.sizeOf0
 v0 := Tryz.zeroValue0
 t2 := Tryz.underlying2
 a2 := Tryz.isAgg2
 z2 := Tryz.sizeOf2
 v2 := Tryz.zeroValue2
 t3 := Tryz.underlying3
 a3 := Tryz.isAgg3
 z3 := Tryz.sizeOf3
 v3 := Tryz.zeroValue3
 t4 := Tryz.underlying4
 a4 := Tryz.isAgg4
 z4 := Tryz.sizeOf4
 v4 := Tryz.zeroValue4
 t5 := Tryz.underlying5
 a5 := Tryz.isAgg5
 z5 := Tryz.sizeOf5
 v5 := Tryz.zeroValue5
 t9 := Tryz.underlying9
 a9 := Tryz.isAgg9
 z9 := Tryz.sizeOf9
 v9 := Tryz.zeroValue9
 t20 := Tryz.underlying20
 a20 := Tryz.isAgg20
 z20 := Tryz.sizeOf20
 v20 := Tryz.zeroValue20
 t37 := Tryz.underlying96
 a37 := Tryz.isAgg96
 z37 := Tryz.sizeOf96
 v37 := Tryz.zeroValue96
 t46 := Tryz.underlying123
 a46 := Tryz.isAgg123
 z46 := Tryz.sizeOf123
 v46 := Tryz.zeroValue123
 t51 := Tryz.underlying151
 a51 := Tryz.isAgg151
 z51 := Tryz.sizeOf151
 v51 := Tryz.zeroValue151
 t53 := Tryz.underlying128
 a53 := Tryz.isAgg128
 z53 := Tryz.sizeOf128
 v53 := Tryz.zeroValue128
 t171 := Tryz.underlying135
 a171 := Tryz.isAgg135
 z171 := Tryz.sizeOf135
 v171 := Tryz.zeroValue135
 t173 := Tryz.underlying138
 a173 := Tryz.isAgg138
 z173 := Tryz.sizeOf138
 v173 := Tryz.zeroValue138
 t212 := Tryz.underlying150
 a212 := Tryz.isAgg150
 z212 := Tryz.sizeOf150
 v212 := Tryz.zeroValue150
 t213 := Tryz.underlying152
 a213 := Tryz.isAgg152
 z213 := Tryz.sizeOf152
 t232 := Tryz.underlying179
 a232 := Tryz.isAgg179
 z232 := Tryz.sizeOf179
 v232 := Tryz.zeroValue179
 t233 := Tryz.underlying180
 a233 := Tryz.isAgg180
 z233 := Tryz.sizeOf180
 v233 := Tryz.zeroValue180
 g17 := by kernel_rfl
 g18 := by kernel_rfl
 g19 := by kernel_rfl
 i0 := by kernel_rfl
 i2 := by kernel_rfl
 i3 := by kernel_rfl
 i4 := by kernel_rfl
 i5 := by kernel_rfl
 i9 := by kernel_rfl
 i20 := by kernel_rfl
 i37 := by kernel_rfl
 i46 := by kernel_rfl
 i51 := by kernel_rfl
 i53 := by kernel_rfl
 i171 := by kernel_rfl
 i173 := by kernel_rfl
 i212 := by kernel_rfl
 i232 := by kernel_rfl
 i233 := by kernel_rfl
 m17 := by kernel_rfl
 m18 := by kernel_rfl
 m19 := by kernel_rfl
}
def lays196_ren : Go.Shelf.Ren := ⟨fun | 196 => 79 | 259 => 95 | n => n, fun | 9 => 9 | 4 => 4 | 3 => 3 | 5 => 5 | 12 => 12 | 119 => 119 | 0 => 0 | 46 => 123 | 139 => 122 | 138 => 121 | 53 => 128 | n => n, fun | 3 => 0 | 4 => 1 | n => n⟩
theorem lays196 : Go.Proofs.Lays.n196 Tryz.prog lays196_ren := {
 mixed := by kernel_rfl
 f196 := Tryz.func79.trans (congrArg some (by kernel_rfl))
 f259 := Tryz.func95.trans (congrArg some (by kernel_rfl))
 t0 := Tryz.underlying0
 a0 := Tryz.isAgg0
 z0 := Tryz.sizeOf0
 v0 := Tryz.zeroValue0
 t3 := Tryz.underlying3
 a3 := Tryz.isAgg3
 z3 := Tryz.sizeOf3
 v3 := Tryz.zeroValue3
 t4 := Tryz.underlying4
 a4 := Tryz.isAgg4
 z4 := Tryz.sizeOf4
 v4 := Tryz.zeroValue4
 t5 := Tryz.underlying5
 a5 := Tryz.isAgg5
 z5 := Tryz.sizeOf5
 v5 := Tryz.zeroValue5
 t9 := Tryz.underlying9
 a9 := Tryz.isAgg9
 z9 := Tryz.sizeOf9
 v9 := Tryz.zeroValue9
 t12 := Tryz.underlying12
 a12 := Tryz.isAgg12
 z12 := Tryz.sizeOf12
 v12 := Tryz.zeroValue12
 t46 := Tryz.underlying123
 a46 := Tryz.isAgg123
 z46 := Tryz.sizeOf123
 v46 := Tryz.zeroValue123
 t53 := Tryz.underlying128
 a53 := Tryz.isAgg128
 z53 := Tryz.sizeOf128
 v53 := Tryz.zeroValue128
 t119 := Tryz.underlying119
 a119 := Tryz.isAgg119
 z119 := Tryz.sizeOf119
 t138 := Tryz.underlying121
 a138 := Tryz.isAgg121
 z138 := Tryz.sizeOf121
 v138 := Tryz.zeroValue121
 t139 := Tryz.underlying122
 a139 := Tryz.isAgg122
 z139 := Tryz.sizeOf122
 v139 := Tryz.zeroValue122
 g3 := by kernel_rfl
 g4 := by kernel_rfl
}
theorem sp7 : Spec1 Tryz.prog 0 7 0 := spec_true alive_ok
theorem sp80 : Spec1 Tryz.prog 1 80 2 := spec_itoa ⟨_, _, Tryz.func80, rfl⟩ (by kernel_rfl) fun n w h0 h1 ht => Go.Proofs.Any.strconv_Itoa lays171 n h0 h1 w ht
theorem sp79 : Spec1 Tryz.prog 3 79 1 := spec_valid (g1 := 0) (g2 := 1) (by decide) ⟨_, _, Tryz.func79, rfl⟩ fun s w h1 h2 => Go.Proofs.Any.utf8_ValidString lays196 s w h1 h2
theorem specs_ok : SpecOK Tryz.prog (gspec hint) := gspec_ok (show SpecsOK Tryz.prog specL from ⟨sp7, sp80, sp79, trivial⟩)
end Go.Proofs.YteknbnkjelmfaaaGreatDoor
