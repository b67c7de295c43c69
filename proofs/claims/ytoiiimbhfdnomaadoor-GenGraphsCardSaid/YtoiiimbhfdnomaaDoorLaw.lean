/- Plain functions for the program's. -/
import Derived.Test.YtoiiimbhfdnomaaDoorFa
import Derived.Test.YtoiiimbhfdnomaaDoorGvRec
import Derived.Test.YtoiiimbhfdnomaaDoorGvPlain
import Derived.Test.YtoiiimbhfdnomaaDoorGvImp
import Derived.Test.YtoiiimbhfdnomaaDoorProg
import Derived.Test.YtoiiimbhfdnomaaDoorGs
import Derived.Test.YtoiiimbhfdnomaaDoorGvSpec
set_option linter.unusedSimpArgs false
set_option linter.unusedVariables false
namespace Go.Proofs.YtoiiimbhfdnomaaDoor
open Go Go.Iv Go.Gv
set_option maxRecDepth 100000
set_option linter.unusedVariables false
noncomputable def rightP (_n : Nat) (c : Int) : Option (Bool × Unit) :=
 Option.bind (bif (ile (0 : Int) c) then
   bif (ile c (1114111 : Int)) then
    bif (ilt c (55296 : Int)) then
     some true
    else
    some (ilt (57343 : Int) c)
   else
   some false
  else
  some false) fun b1 =>
 some (b1, ())
noncomputable def rightP_it : FnIt := ⟨48, [(false, (.int .i64))], [(false, .bool)], 0, fun n x => rightP n x.1⟩
theorem rightP_ok (n : Nat) : FnOK Tryd.prog hint shT rightP_it n :=
  FnOK.of (hk := fun β => (Known.mk [] []).hk β) (sh := shT) (fun m _ => KnownOK.hook KnownOK.nil m) (fun x => by kernel_rfl)
noncomputable def L42_23_Xexit1 : Tm := ⟨[(5, .one (.int .i64)), (6, .one (.int .i64)), (7, .one (.int .i64))], [], 64, 64, 1000⟩
noncomputable def L42_23_Xret : Tm := ⟨[(2, .one (.int .i64)), (3, .one (.int .i64))], [], 64, 64, 1000⟩
noncomputable def L42_23_T : Tm := ⟨[(0, .one (.lst .byte)), (5, .one (.int .i64)), (6, .one (.int .i64)), (7, .one (.int .i64)), (8, .one (.int .i64))], [], 64, 64, 1000⟩
noncomputable def L42_23 : Nat → (List UInt8) → Int → Int → Int → Int → Option (((Int × (Int × (Int × Unit))) × Unit) ⊕ ((Int × (Int × Unit)) × Unit))
 | 0, _, _, _, _, _ => none
 | n + 1, t0, t5, t6, t7, t8 =>
  bif (ilt t8 t5) then
   bif (ile (0 : Int) t8) then
   Option.bind (t0[(Int.toNat t8)]?) fun x9 =>
   Option.bind (bif (ilt (IntKind.wrap .i64 (ub x9)) (128 : Int)) then
     some true
    else
    some (ilt (191 : Int) (IntKind.wrap .i64 (ub x9)))) fun b11 =>
   bif b11 then
    some (.inr (((0 : Int), ((0 : Int), ())), ()))
   else
   L42_23 n t0 t5 t6 (IntKind.wrap .i64 ((IntKind.wrap .i64 (t7 * (64 : Int))) + (andI Go.IntKind.i64 (IntKind.wrap .i64 (ub x9)) (63 : Int)))) (IntKind.wrap .i64 (t8 + (1 : Int)))
   else none
  else
  some (.inl ((t5, (t6, (t7, ()))), ()))
noncomputable def L42_23_it : LoopIt := ⟨42, 23, none, L42_23_T, [(.exit 1, L42_23_Xexit1), (.ret, L42_23_Xret)], 0, fun n x => L42_23 n x.1.1 x.1.2.1 x.1.2.2.1 x.1.2.2.2.1 x.1.2.2.2.2.1, []⟩
theorem L42_23_Xexit1_ok : L42_23_Xexit1.ok Tryd.prog hint := by
  intro p hp
  cases hp
theorem L42_23_Xret_ok : L42_23_Xret.ok Tryd.prog hint := by
  intro p hp
  cases hp
theorem L42_23_T_ok : L42_23_T.ok Tryd.prog hint := by
  intro p hp
  cases hp
theorem L42_23_ok : ∀ n, LoopOK Tryd.prog hint shT L42_23_it n :=
  LoopOK.of (hk := fun β => (Known.mk [] []).hk β) (sh := shT) (OneLoop.of (by kernel_rfl)) L42_23_T_ok ⟨⟨L42_23_Xexit1_ok, Nat.le_refl _, Nat.le_refl _⟩, ⟨L42_23_Xret_ok, Nat.le_refl _, Nat.le_refl _⟩, trivial⟩ (fun m => KnownOK.hook KnownOK.nil m)
    (fun _ => by kernel_rfl) (fun m x => by kernel_rfl)
noncomputable def pointR (n : Nat) (b : List UInt8) : Option (Int × (Int × Unit)) :=
 Option.bind (b[0]?) fun x0 =>
 bif (ilt (IntKind.wrap .i64 (ub x0)) (128 : Int)) then
  some ((IntKind.wrap .i64 (ub x0)), (1 : Int), ())
 else
 Option.bind (bif (ile (194 : Int) (IntKind.wrap .i64 (ub x0))) then
   some (ilt (IntKind.wrap .i64 (ub x0)) (224 : Int))
  else
  some false) fun b2 =>
 bif b2 then
  bif (ilt (len b) (2 : Int)) then
   some ((0 : Int), (0 : Int), ())
  else
  Option.bind (L42_23 (n + 1) b (2 : Int) (128 : Int) (andI Go.IntKind.i64 (IntKind.wrap .i64 (ub x0)) (31 : Int)) (1 : Int)) fun y12 =>
  match y12 with
   | .inl y13 =>
    bif (ilt y13.1.2.2.1 y13.1.2.1) then
     some ((0 : Int), (0 : Int), ())
    else
    Option.bind (rightP n y13.1.2.2.1) fun y15 =>
    bif (!y15.1) then
     some ((0 : Int), (0 : Int), ())
    else
    some (y13.1.2.2.1, y13.1.1, ())
   | .inr y14 =>
    some (y14.1.1, y14.1.2.1, ())
 else
 Option.bind (bif (ile (224 : Int) (IntKind.wrap .i64 (ub x0))) then
   some (ilt (IntKind.wrap .i64 (ub x0)) (240 : Int))
  else
  some false) fun b17 =>
 bif b17 then
  bif (ilt (len b) (3 : Int)) then
   some ((0 : Int), (0 : Int), ())
  else
  Option.bind (L42_23 (n + 1) b (3 : Int) (2048 : Int) (andI Go.IntKind.i64 (IntKind.wrap .i64 (ub x0)) (15 : Int)) (1 : Int)) fun y18 =>
  match y18 with
   | .inl y19 =>
    bif (ilt y19.1.2.2.1 y19.1.2.1) then
     some ((0 : Int), (0 : Int), ())
    else
    Option.bind (rightP n y19.1.2.2.1) fun y21 =>
    bif (!y21.1) then
     some ((0 : Int), (0 : Int), ())
    else
    some (y19.1.2.2.1, y19.1.1, ())
   | .inr y20 =>
    some (y20.1.1, y20.1.2.1, ())
 else
 Option.bind (bif (ile (240 : Int) (IntKind.wrap .i64 (ub x0))) then
   some (ilt (IntKind.wrap .i64 (ub x0)) (245 : Int))
  else
  some false) fun b23 =>
 bif b23 then
  bif (ilt (len b) (4 : Int)) then
   some ((0 : Int), (0 : Int), ())
  else
  Option.bind (L42_23 (n + 1) b (4 : Int) (65536 : Int) (andI Go.IntKind.i64 (IntKind.wrap .i64 (ub x0)) (7 : Int)) (1 : Int)) fun y24 =>
  match y24 with
   | .inl y25 =>
    bif (ilt y25.1.2.2.1 y25.1.2.1) then
     some ((0 : Int), (0 : Int), ())
    else
    Option.bind (rightP n y25.1.2.2.1) fun y27 =>
    bif (!y27.1) then
     some ((0 : Int), (0 : Int), ())
    else
    some (y25.1.2.2.1, y25.1.1, ())
   | .inr y26 =>
    some (y26.1.1, y26.1.2.1, ())
 else
 some ((0 : Int), (0 : Int), ())
noncomputable def pointR_it : FnIt := ⟨42, [(false, (.slc .byte))], [(false, (.int .i64)), (false, (.int .i64))], 1, fun n x => pointR n x.1⟩
theorem pointR_ok (n : Nat) : FnOK Tryd.prog hint shT pointR_it n :=
  FnOK.of (hk := fun β => (Known.mk [rightP_it] [L42_23_it]).hk β) (sh := shT) (fun m _ => KnownOK.hook ((KnownOK.nil.loop L42_23_ok L42_23_T_ok).fn rightP_ok) m) (fun x => by kernel_rfl)
noncomputable def L34_3_Xexit0 : Tm := ⟨[(4, .one (.all 64 3 (.int .i64) .ex))], [], 64, 65, 1000⟩
noncomputable def L34_3_Xret : Tm := ⟨[(2, .one (.fix (TV.raw (Go.Value.slice (Option.none) 0 0)))), (3, .one (.bool))], [], 64, 64, 1000⟩
noncomputable def L34_3_T : Tm := ⟨[(0, .one (.lst .byte)), (4, .one (.all 64 3 (.int .i64) .ex)), (5, .one (.int .i64))], [], 64, 65, 1000⟩
noncomputable def L34_3 : Nat → (List UInt8) → (List Int) → Int → Option ((((List Int) × Unit) × Unit) ⊕ ((Unit × (Bool × Unit)) × Unit))
 | 0, _, _, _ => none
 | n + 1, t0, t4, t5 =>
  bif (ilt t5 (len t0)) then
   bif ((ile (0 : Int) t5) && (ile t5 (len t0))) then
   Option.bind (pointR (n + 1) (List.take ((List.length t0) - (Int.toNat t5)) (List.drop (Int.toNat t5) t0))) fun y3 =>
   bif (y3.2.1 == (0 : Int)) then
    some (.inr (((), (false, ())), ()))
   else
   bif (room (((List.length t4) + (List.length (y3.1 :: ([] : List Int)))) * 9)) then
   L34_3 n t0 (t4 ++ (y3.1 :: ([] : List Int))) (IntKind.wrap .i64 (t5 + y3.2.1))
   else none
   else none
  else
  some (.inl ((t4, ()), ()))
noncomputable def L34_3_it : LoopIt := ⟨34, 3, none, L34_3_T, [(.exit 0, L34_3_Xexit0), (.ret, L34_3_Xret)], 2, fun n x => L34_3 n x.1.1 x.1.2.1 x.1.2.2.1, []⟩
theorem L34_3_Xexit0_ok : L34_3_Xexit0.ok Tryd.prog hint := by
  intro p hp
  cases hp
theorem L34_3_Xret_ok : L34_3_Xret.ok Tryd.prog hint := by
  intro p hp
  cases hp
theorem L34_3_T_ok : L34_3_T.ok Tryd.prog hint := by
  intro p hp
  cases hp
theorem L34_3_ok : ∀ n, LoopOK Tryd.prog hint shT L34_3_it n :=
  LoopOK.of (hk := fun β => (Known.mk [pointR_it] []).hk β) (sh := shT) (OneLoop.of (by kernel_rfl)) L34_3_T_ok ⟨⟨L34_3_Xexit0_ok, Nat.le_refl _, Nat.le_refl _⟩, ⟨L34_3_Xret_ok, Nat.le_refl _, Nat.le_refl _⟩, trivial⟩ (fun m => KnownOK.hook (KnownOK.nil.fn pointR_ok) m)
    (fun _ => by kernel_rfl) (fun m x => by kernel_rfl)
noncomputable def smallR (n : Nat) (b : List UInt8) : Option ((List Int) × (Bool × Unit)) :=
 Option.bind (L34_3 n b ([] : List Int) (0 : Int)) fun y4 =>
 match y4 with
  | .inl y5 =>
   some (y5.1.1, true, ())
  | .inr y6 =>
   some (([] : List Int), y6.1.2.1, ())
noncomputable def smallR_it : FnIt := ⟨34, [(false, (.slc .byte))], [(false, (.slc (.int .i64))), (false, .bool)], 2, fun n x => smallR n x.1⟩
theorem smallR_ok (n : Nat) : FnOK Tryd.prog hint shT smallR_it n :=
  FnOK.of (hk := fun β => (Known.mk [] [L34_3_it]).hk β) (sh := shT) (fun m _ => KnownOK.hook (KnownOK.nil.loop L34_3_ok L34_3_T_ok) m) (fun x => by kernel_rfl)
noncomputable def textP (n : Nat) (s : List UInt8) : Option ((List Int) × (Bool × Unit)) :=
 Option.bind (smallR n s) fun y0 =>
 some (y0.1, y0.2.1, ())
noncomputable def textP_it : FnIt := ⟨31, [(false, .str)], [(false, (.slc (.int .i64))), (false, .bool)], 3, fun n x => textP n x.1⟩
theorem textP_ok (n : Nat) : FnOK Tryd.prog hint shT textP_it n :=
  FnOK.of (hk := fun β => (Known.mk [smallR_it] []).hk β) (sh := shT) (fun m _ => KnownOK.hook (KnownOK.nil.fn smallR_ok) m) (fun x => by kernel_rfl)
noncomputable def wordR (_n : Nat) (c : Int) : Option (Bool × Unit) :=
 Option.bind (bif (ile (48 : Int) c) then
   bif (ile c (57 : Int)) then
    some true
   else
   bif (ile (97 : Int) c) then
    bif (ile c (122 : Int)) then
     some true
    else
    bif (ile (65 : Int) c) then
     bif (ile c (90 : Int)) then
      some true
     else
     some (c == (45 : Int))
    else
    some (c == (45 : Int))
   else
   bif (ile (65 : Int) c) then
    bif (ile c (90 : Int)) then
     some true
    else
    some (c == (45 : Int))
   else
   some (c == (45 : Int))
  else
  bif (ile (97 : Int) c) then
   bif (ile c (122 : Int)) then
    some true
   else
   bif (ile (65 : Int) c) then
    bif (ile c (90 : Int)) then
     some true
    else
    some (c == (45 : Int))
   else
   some (c == (45 : Int))
  else
  bif (ile (65 : Int) c) then
   bif (ile c (90 : Int)) then
    some true
   else
   some (c == (45 : Int))
  else
  some (c == (45 : Int))) fun b1 =>
 some (b1, ())
noncomputable def wordR_it : FnIt := ⟨35, [(false, (.int .i64))], [(false, .bool)], 0, fun n x => wordR n x.1⟩
theorem wordR_ok (n : Nat) : FnOK Tryd.prog hint shT wordR_it n :=
  FnOK.of (hk := fun β => (Known.mk [] []).hk β) (sh := shT) (fun m _ => KnownOK.hook KnownOK.nil m) (fun x => by kernel_rfl)
noncomputable def hexR (_n : Nat) (c : Int) : Option (Int × Unit) :=
 Option.bind (bif (ile (48 : Int) c) then
   some (ile c (57 : Int))
  else
  some false) fun b1 =>
 bif b1 then
  some ((IntKind.wrap .i64 (c - (48 : Int))), ())
 else
 Option.bind (bif (ile (97 : Int) c) then
   some (ile c (102 : Int))
  else
  some false) fun b3 =>
 bif b3 then
  some ((IntKind.wrap .i64 ((IntKind.wrap .i64 (c - (97 : Int))) + (10 : Int))), ())
 else
 Option.bind (bif (ile (65 : Int) c) then
   some (ile c (70 : Int))
  else
  some false) fun b5 =>
 bif b5 then
  some ((IntKind.wrap .i64 ((IntKind.wrap .i64 (c - (65 : Int))) + (10 : Int))), ())
 else
 some ((-(1 : Int)), ())
noncomputable def hexR_it : FnIt := ⟨37, [(false, (.int .i64))], [(false, (.int .i64))], 0, fun n x => hexR n x.1⟩
theorem hexR_ok (n : Nat) : FnOK Tryd.prog hint shT hexR_it n :=
  FnOK.of (hk := fun β => (Known.mk [] []).hk β) (sh := shT) (fun m _ => KnownOK.hook KnownOK.nil m) (fun x => by kernel_rfl)
noncomputable def L36_2_Xexit0 : Tm := ⟨[], [], 64, 64, 1000⟩
noncomputable def L36_2_Xret : Tm := ⟨[(4, .one (.bool))], [], 64, 64, 1000⟩
noncomputable def L36_2_T : Tm := ⟨[(0, .one (.str)), (1, .one (.int .i64)), (5, .one (.int .i64))], [], 64, 64, 1000⟩
noncomputable def L36_2 : Nat → (List UInt8) → Int → Int → Option ((Unit × Unit) ⊕ ((Bool × Unit) × Unit))
 | 0, _, _, _ => none
 | n + 1, t0, t1, t5 =>
  bif (ilt t5 (len t0)) then
   bif (ile (0 : Int) t5) then
   Option.bind (t0[(Int.toNat t5)]?) fun x2 =>
   bif ((IntKind.wrap .i64 (ub x2)) == t1) then
    some (.inr ((true, ()), ()))
   else
   L36_2 n t0 t1 (IntKind.wrap .i64 (t5 + (1 : Int)))
   else none
  else
  some (.inl ((), ()))
noncomputable def L36_2_it : LoopIt := ⟨36, 2, none, L36_2_T, [(.exit 0, L36_2_Xexit0), (.ret, L36_2_Xret)], 0, fun n x => L36_2 n x.1.1 x.1.2.1 x.1.2.2.1, []⟩
theorem L36_2_Xexit0_ok : L36_2_Xexit0.ok Tryd.prog hint := by
  intro p hp
  cases hp
theorem L36_2_Xret_ok : L36_2_Xret.ok Tryd.prog hint := by
  intro p hp
  cases hp
theorem L36_2_T_ok : L36_2_T.ok Tryd.prog hint := by
  intro p hp
  cases hp
theorem L36_2_ok : ∀ n, LoopOK Tryd.prog hint shT L36_2_it n :=
  LoopOK.of (hk := fun β => (Known.mk [] []).hk β) (sh := shT) (OneLoop.of (by kernel_rfl)) L36_2_T_ok ⟨⟨L36_2_Xexit0_ok, Nat.le_refl _, Nat.le_refl _⟩, ⟨L36_2_Xret_ok, Nat.le_refl _, Nat.le_refl _⟩, trivial⟩ (fun m => KnownOK.hook KnownOK.nil m)
    (fun _ => by kernel_rfl) (fun m x => by kernel_rfl)
noncomputable def amongR (n : Nat) (s : List UInt8) (c : Int) : Option (Bool × Unit) :=
 Option.bind (L36_2 (n + 1) s c (0 : Int)) fun y3 =>
 match y3 with
  | .inl _ =>
   some (false, ())
  | .inr y5 =>
   some (y5.1.1, ())
noncomputable def amongR_it : FnIt := ⟨36, [(false, .str), (false, (.int .i64))], [(false, .bool)], 1, fun n x => amongR n x.1 x.2.1⟩
theorem amongR_ok (n : Nat) : FnOK Tryd.prog hint shT amongR_it n :=
  FnOK.of (hk := fun β => (Known.mk [] [L36_2_it]).hk β) (sh := shT) (fun m _ => KnownOK.hook (KnownOK.nil.loop L36_2_ok L36_2_T_ok) m) (fun x => by kernel_rfl)
noncomputable def uriR (n : Nat) (l : List Int) (i : Int) : Option (Int × Unit) :=
 bif (ile (len l) i) then
  some ((0 : Int), ())
 else
 bif (ile (0 : Int) i) then
 Option.bind (l[(Int.toNat i)]?) fun x0 =>
 Option.bind (wordR (n + 1) x0) fun y1 =>
 bif y1.1 then
  some ((1 : Int), ())
 else
 Option.bind (amongR n ([(35 : UInt8), (59 : UInt8), (47 : UInt8), (63 : UInt8), (58 : UInt8), (64 : UInt8), (38 : UInt8), (61 : UInt8), (43 : UInt8), (36 : UInt8), (44 : UInt8), (95 : UInt8), (46 : UInt8), (33 : UInt8), (126 : UInt8), (42 : UInt8), (39 : UInt8), (40 : UInt8), (41 : UInt8), (91 : UInt8), (93 : UInt8)] : List UInt8) x0) fun y2 =>
 bif y2.1 then
  some ((1 : Int), ())
 else
 bif (x0 == (37 : Int)) then
  bif (ilt (IntKind.wrap .i64 (i + (2 : Int))) (len l)) then
   bif (ile (0 : Int) (IntKind.wrap .i64 (i + (1 : Int)))) then
   Option.bind (l[(Int.toNat (IntKind.wrap .i64 (i + (1 : Int))))]?) fun x3 =>
   Option.bind (hexR (n + 1) x3) fun y4 =>
   bif (ile (0 : Int) y4.1) then
    bif (ile (0 : Int) (IntKind.wrap .i64 (i + (2 : Int)))) then
    Option.bind (l[(Int.toNat (IntKind.wrap .i64 (i + (2 : Int))))]?) fun x5 =>
    Option.bind (hexR (n + 1) x5) fun y6 =>
    bif (ile (0 : Int) y6.1) then
     some ((3 : Int), ())
    else
    some ((0 : Int), ())
    else none
   else
   some ((0 : Int), ())
   else none
  else
  some ((0 : Int), ())
 else
 some ((0 : Int), ())
 else none
noncomputable def uriR_it : FnIt := ⟨32, [(false, (.slc (.int .i64))), (false, (.int .i64))], [(false, (.int .i64))], 2, fun n x => uriR n x.1 x.2.1⟩
theorem uriR_ok (n : Nat) : FnOK Tryd.prog hint shT uriR_it n :=
  FnOK.of (hk := fun β => (Known.mk [hexR_it, amongR_it, wordR_it] []).hk β) (sh := shT) (fun m _ => KnownOK.hook (((KnownOK.nil.fn wordR_ok).fn amongR_ok).fn hexR_ok) m) (fun x => by kernel_rfl)
noncomputable def L26_5_Xexit0 : Tm := ⟨[], [], 64, 64, 1000⟩
noncomputable def L26_5_Xret : Tm := ⟨[(2, .one (.bool))], [], 64, 64, 1000⟩
noncomputable def L26_5_T : Tm := ⟨[(3, .one (.lst (.int .i64))), (5, .one (.int .i64))], [], 64, 64, 1000⟩
noncomputable def L26_5 : Nat → (List Int) → Int → Option ((Unit × Unit) ⊕ ((Bool × Unit) × Unit))
 | 0, _, _ => none
 | n + 1, t3, t5 =>
  bif (ilt t5 (len t3)) then
   Option.bind (uriR (n + 1) t3 t5) fun y5 =>
   bif (y5.1 == (0 : Int)) then
    some (.inr ((false, ()), ()))
   else
   L26_5 n t3 (IntKind.wrap .i64 (t5 + y5.1))
  else
  some (.inl ((), ()))
noncomputable def L26_5_it : LoopIt := ⟨26, 5, none, L26_5_T, [(.exit 0, L26_5_Xexit0), (.ret, L26_5_Xret)], 3, fun n x => L26_5 n x.1.1 x.1.2.1, []⟩
theorem L26_5_Xexit0_ok : L26_5_Xexit0.ok Tryd.prog hint := by
  intro p hp
  cases hp
theorem L26_5_Xret_ok : L26_5_Xret.ok Tryd.prog hint := by
  intro p hp
  cases hp
theorem L26_5_T_ok : L26_5_T.ok Tryd.prog hint := by
  intro p hp
  cases hp
theorem L26_5_ok : ∀ n, LoopOK Tryd.prog hint shT L26_5_it n :=
  LoopOK.of (hk := fun β => (Known.mk [uriR_it] []).hk β) (sh := shT) (OneLoop.of (by kernel_rfl)) L26_5_T_ok ⟨⟨L26_5_Xexit0_ok, Nat.le_refl _, Nat.le_refl _⟩, ⟨L26_5_Xret_ok, Nat.le_refl _, Nat.le_refl _⟩, trivial⟩ (fun m => KnownOK.hook (KnownOK.nil.fn uriR_ok) m)
    (fun _ => by kernel_rfl) (fun m x => by kernel_rfl)
noncomputable def validR (n : Nat) (tag : List UInt8) : Option (Bool × Unit) :=
 Option.bind (textP n tag) fun y0 =>
 Option.bind (bif (!y0.2.1) then
   some true
  else
  some ((len y0.1) == (0 : Int))) fun b2 =>
 bif b2 then
  some (false, ())
 else
 Option.bind (L26_5 (n + 1) y0.1 (0 : Int)) fun y6 =>
 match y6 with
  | .inl _ =>
   some (true, ())
  | .inr y8 =>
   some (y8.1.1, ())
noncomputable def validR_it : FnIt := ⟨26, [(false, .str)], [(false, .bool)], 4, fun n x => validR n x.1⟩
theorem validR_ok (n : Nat) : FnOK Tryd.prog hint shT validR_it n :=
  FnOK.of (hk := fun β => (Known.mk [textP_it] [L26_5_it]).hk β) (sh := shT) (fun m _ => KnownOK.hook ((KnownOK.nil.fn textP_ok).loop L26_5_ok L26_5_T_ok) m) (fun x => by kernel_rfl)
noncomputable def textOkR (n : Nat) (s : List UInt8) : Option (Bool × Unit) :=
 Option.bind (textP n s) fun y0 =>
 Option.bind (bif y0.2.1 then
   some (ile (len s) (262144 : Int))
  else
  some false) fun b2 =>
 some (b2, ())
noncomputable def textOkR_it : FnIt := ⟨27, [(false, .str)], [(false, .bool)], 4, fun n x => textOkR n x.1⟩
theorem textOkR_ok (n : Nat) : FnOK Tryd.prog hint shT textOkR_it n :=
  FnOK.of (hk := fun β => (Known.mk [textP_it] []).hk β) (sh := shT) (fun m _ => KnownOK.hook (KnownOK.nil.fn textP_ok) m) (fun x => by kernel_rfl)
noncomputable def L19_4_Xexit0 : Tm := ⟨[(2, .one (.fix (TV.ptr 64 0)))], [(64, .cells 39 [.int .i64, .str, .str, .lst (.int .i64), .bool] true)], 65, 65, 1001⟩
noncomputable def L19_4_Xret : Tm := ⟨[(4, .one (.bool))], [(64, .cells 39 [.int .i64, .str, .str, .lst (.int .i64), .bool] true)], 65, 65, 1001⟩
noncomputable def L19_4_T : Tm := ⟨[(1, .one (.int .i64)), (2, .one (.fix (TV.ptr 64 0))), (5, .one (.int .i64))], [(64, .cells 39 [.int .i64, .str, .str, .lst (.int .i64), .bool] true)], 65, 65, 1001⟩
noncomputable def L19_4 : Nat → Int → Int → Int → (List UInt8) → (List UInt8) → (List Int) → Bool → Option (((Unit × Unit) × ((Int × ((List UInt8) × ((List UInt8) × ((List Int) × (Bool × Unit))))) × Unit)) ⊕ ((Bool × Unit) × ((Int × ((List UInt8) × ((List UInt8) × ((List Int) × (Bool × Unit))))) × Unit)))
 | 0, _, _, _, _, _, _, _ => none
 | n + 1, t1, t5, c64_0, c64_1, c64_2, c64_3, c64_4 =>
  bif (ilt t5 (len c64_3)) then
   bif (ile (0 : Int) t5) then
   Option.bind (c64_3[(Int.toNat t5)]?) fun x5 =>
   bif (ilt x5 (0 : Int)) then
    some (.inr ((false, ()), ((c64_0, (c64_1, (c64_2, (c64_3, (c64_4, ()))))), ())))
   else
   bif (ile (0 : Int) t5) then
   Option.bind (c64_3[(Int.toNat t5)]?) fun x6 =>
   bif (ile t1 x6) then
    some (.inr ((false, ()), ((c64_0, (c64_1, (c64_2, (c64_3, (c64_4, ()))))), ())))
   else
   L19_4 n t1 (IntKind.wrap .i64 (t5 + (1 : Int))) c64_0 c64_1 c64_2 c64_3 c64_4
   else none
   else none
  else
  some (.inl (((), ()), ((c64_0, (c64_1, (c64_2, (c64_3, (c64_4, ()))))), ())))
noncomputable def L19_4_it : LoopIt := ⟨19, 4, none, L19_4_T, [(.exit 0, L19_4_Xexit0), (.ret, L19_4_Xret)], 0, fun n x => L19_4 n x.1.1 x.1.2.2.1 x.2.1.1 x.2.1.2.1 x.2.1.2.2.1 x.2.1.2.2.2.1 x.2.1.2.2.2.2.1, []⟩
theorem L19_4_Xexit0_ok : L19_4_Xexit0.ok Tryd.prog hint := by
  intro p hp
  simp only [L19_4_Xexit0, List.mem_cons, List.not_mem_nil, or_false] at hp
  rcases hp with rfl
  · trivial
theorem L19_4_Xret_ok : L19_4_Xret.ok Tryd.prog hint := by
  intro p hp
  simp only [L19_4_Xret, List.mem_cons, List.not_mem_nil, or_false] at hp
  rcases hp with rfl
  · trivial
theorem L19_4_T_ok : L19_4_T.ok Tryd.prog hint := by
  intro p hp
  simp only [L19_4_T, List.mem_cons, List.not_mem_nil, or_false] at hp
  rcases hp with rfl
  · trivial
theorem L19_4_ok : ∀ n, LoopOK Tryd.prog hint shT L19_4_it n :=
  LoopOK.of (hk := fun β => (Known.mk [] []).hk β) (sh := shT) (OneLoop.of (by kernel_rfl)) L19_4_T_ok ⟨⟨L19_4_Xexit0_ok, Nat.le_refl _, Nat.le_refl _⟩, ⟨L19_4_Xret_ok, Nat.le_refl _, Nat.le_refl _⟩, trivial⟩ (fun m => KnownOK.hook KnownOK.nil m)
    (fun _ => by kernel_rfl) (fun m x => by kernel_rfl)
noncomputable def nodeR (n : Nat) (x : (Int × (List UInt8 × (List UInt8 × (List Int × Bool))))) (m : Int) : Option (Bool × Unit) :=
 Option.bind (validR n x.2.1) fun y0 =>
 bif (!y0.1) then
  some (false, ())
 else
 bif (x.2.1 == ([(33 : UInt8)] : List UInt8)) then
  some (false, ())
 else
 bif (ilt (1000 : Int) (len x.2.1)) then
  some (false, ())
 else
 Option.bind (L19_4 (n + 5) m (0 : Int) x.1 x.2.1 x.2.2.1 x.2.2.2.1 x.2.2.2.2) fun y7 =>
 match y7 with
  | .inl y8 =>
   bif (y8.2.1.1 == (1 : Int)) then
    bif ((len y8.2.1.2.2.2.1) == (0 : Int)) then
     Option.bind (textOkR n y8.2.1.2.2.1) fun y10 =>
     some (y10.1, ())
    else
    some (false, ())
   else
   bif (y8.2.1.1 == (2 : Int)) then
    Option.bind (bif (y8.2.1.2.2.1 == ([] : List UInt8)) then
      some (!y8.2.1.2.2.2.2.1)
     else
     some false) fun b12 =>
    some (b12, ())
   else
   bif (y8.2.1.1 == (3 : Int)) then
    bif (y8.2.1.2.2.1 == ([] : List UInt8)) then
     bif (!y8.2.1.2.2.2.2.1) then
      some (((Int.tmod (len y8.2.1.2.2.2.1) (2 : Int)) == (0 : Int)), ())
     else
     some (false, ())
    else
    some (false, ())
   else
   some (false, ())
  | .inr y9 =>
   some (y9.1.1, ())
noncomputable def nodeR_it : FnIt := ⟨19, [(true, (.cons (.int .i64) (.cons .str (.cons .str (.cons (.slc (.int .i64)) .bool))))), (false, (.int .i64))], [(false, .bool)], 5, fun n x => nodeR n x.1 x.2.1⟩
theorem nodeR_ok (n : Nat) : FnOK Tryd.prog hint shT nodeR_it n :=
  FnOK.of (hk := fun β => (Known.mk [textOkR_it, validR_it] [L19_4_it]).hk β) (sh := shT) (fun m _ => KnownOK.hook (((KnownOK.nil.fn validR_ok).loop L19_4_ok L19_4_T_ok).fn textOkR_ok) m) (fun x => by kernel_rfl)
noncomputable def L13_6_Xexit0 : Tm := ⟨[(1, .one (.fix (TV.ptr 64 0))), (3, .one (.int .i64))], [(64, .cells 32 [.lst (.cons (.int .i64) (.cons .str (.cons .str (.cons (.slc (.int .i64)) .bool)))), .lst (.int .i64)] true)], 65, 65, 1001⟩
noncomputable def L13_6_Xret : Tm := ⟨[(2, .one (.bool))], [(64, .cells 32 [.lst (.cons (.int .i64) (.cons .str (.cons .str (.cons (.slc (.int .i64)) .bool)))), .lst (.int .i64)] true)], 65, 65, 1001⟩
noncomputable def L13_6_T : Tm := ⟨[(1, .one (.fix (TV.ptr 64 0))), (3, .one (.int .i64)), (4, .one (.int .i64)), (5, .one (.int .i64))], [(64, .cells 32 [.lst (.cons (.int .i64) (.cons .str (.cons .str (.cons (.slc (.int .i64)) .bool)))), .lst (.int .i64)] true)], 65, 65, 1001⟩
noncomputable def L13_6 : Nat → Int → Int → Int → (List (Int × (List UInt8 × (List UInt8 × (List Int × Bool))))) → (List Int) → Option (((Unit × (Int × Unit)) × (((List (Int × (List UInt8 × (List UInt8 × (List Int × Bool))))) × ((List Int) × Unit)) × Unit)) ⊕ ((Bool × Unit) × (((List (Int × (List UInt8 × (List UInt8 × (List Int × Bool))))) × ((List Int) × Unit)) × Unit)))
 | 0, _, _, _, _, _ => none
 | n + 1, t3, t4, t5, c64_0, c64_1 =>
  bif (ilt t5 t3) then
   bif (ile (0 : Int) t5) then
   Option.bind (c64_0[(Int.toNat t5)]?) fun x6 =>
   bif (ilt (20000 : Int) (IntKind.wrap .i64 (t4 + (len x6.2.2.2.1)))) then
    some (.inr ((false, ()), ((c64_0, (c64_1, ())), ())))
   else
   bif (ile (0 : Int) t5) then
   Option.bind (c64_0[(Int.toNat t5)]?) fun x7 =>
   Option.bind (nodeR (n + 1) (x7.1, (x7.2.1, (x7.2.2.1, (x7.2.2.2.1, x7.2.2.2.2)))) t3) fun y8 =>
   bif (!y8.1) then
    some (.inr ((false, ()), ((c64_0, (c64_1, ())), ())))
   else
   L13_6 n t3 (IntKind.wrap .i64 (t4 + (len x6.2.2.2.1))) (IntKind.wrap .i64 (t5 + (1 : Int))) c64_0 c64_1
   else none
   else none
  else
  some (.inl (((), (t3, ())), ((c64_0, (c64_1, ())), ())))
noncomputable def L13_6_it : LoopIt := ⟨13, 6, none, L13_6_T, [(.exit 0, L13_6_Xexit0), (.ret, L13_6_Xret)], 6, fun n x => L13_6 n x.1.2.1 x.1.2.2.1 x.1.2.2.2.1 x.2.1.1 x.2.1.2.1, []⟩
theorem L13_6_Xexit0_ok : L13_6_Xexit0.ok Tryd.prog hint := by
  intro p hp
  simp only [L13_6_Xexit0, List.mem_cons, List.not_mem_nil, or_false] at hp
  rcases hp with rfl
  · trivial
theorem L13_6_Xret_ok : L13_6_Xret.ok Tryd.prog hint := by
  intro p hp
  simp only [L13_6_Xret, List.mem_cons, List.not_mem_nil, or_false] at hp
  rcases hp with rfl
  · trivial
theorem L13_6_T_ok : L13_6_T.ok Tryd.prog hint := by
  intro p hp
  simp only [L13_6_T, List.mem_cons, List.not_mem_nil, or_false] at hp
  rcases hp with rfl
  · trivial
theorem L13_6_ok : ∀ n, LoopOK Tryd.prog hint shT L13_6_it n :=
  LoopOK.of (hk := fun β => (Known.mk [nodeR_it] []).hk β) (sh := shT) (OneLoop.of (by kernel_rfl)) L13_6_T_ok ⟨⟨L13_6_Xexit0_ok, Nat.le_refl _, Nat.le_refl _⟩, ⟨L13_6_Xret_ok, Nat.le_refl _, Nat.le_refl _⟩, trivial⟩ (fun m => KnownOK.hook (KnownOK.nil.fn nodeR_ok) m)
    (fun _ => by kernel_rfl) (fun m x => by kernel_rfl)
noncomputable def L13_12_Xexit2 : Tm := ⟨[], [(64, .cells 32 [.lst (.cons (.int .i64) (.cons .str (.cons .str (.cons (.slc (.int .i64)) .bool)))), .lst (.int .i64)] true)], 65, 65, 2002⟩
noncomputable def L13_12_Xret : Tm := ⟨[(2, .one (.bool))], [(64, .cells 32 [.lst (.cons (.int .i64) (.cons .str (.cons .str (.cons (.slc (.int .i64)) .bool)))), .lst (.int .i64)] true)], 65, 65, 2002⟩
noncomputable def L13_12_T : Tm := ⟨[(1, .one (.fix (TV.ptr 64 0))), (3, .one (.int .i64)), (6, .one (.int .i64))], [(64, .cells 32 [.lst (.cons (.int .i64) (.cons .str (.cons .str (.cons (.slc (.int .i64)) .bool)))), .lst (.int .i64)] true)], 65, 65, 2002⟩
noncomputable def L13_12 : Nat → Int → Int → (List (Int × (List UInt8 × (List UInt8 × (List Int × Bool))))) → (List Int) → Option ((Unit × (((List (Int × (List UInt8 × (List UInt8 × (List Int × Bool))))) × ((List Int) × Unit)) × Unit)) ⊕ ((Bool × Unit) × (((List (Int × (List UInt8 × (List UInt8 × (List Int × Bool))))) × ((List Int) × Unit)) × Unit)))
 | 0, _, _, _, _ => none
 | n + 1, t3, t6, c64_0, c64_1 =>
  bif (ilt t6 (len c64_1)) then
   bif (ile (0 : Int) t6) then
   Option.bind (c64_1[(Int.toNat t6)]?) fun x16 =>
   bif (ilt x16 (0 : Int)) then
    some (.inr ((false, ()), ((c64_0, (c64_1, ())), ())))
   else
   bif (ile (0 : Int) t6) then
   Option.bind (c64_1[(Int.toNat t6)]?) fun x17 =>
   bif (ile t3 x17) then
    some (.inr ((false, ()), ((c64_0, (c64_1, ())), ())))
   else
   L13_12 n t3 (IntKind.wrap .i64 (t6 + (1 : Int))) c64_0 c64_1
   else none
   else none
  else
  some (.inl ((), ((c64_0, (c64_1, ())), ())))
noncomputable def L13_12_it : LoopIt := ⟨13, 12, none, L13_12_T, [(.exit 2, L13_12_Xexit2), (.ret, L13_12_Xret)], 0, fun n x => L13_12 n x.1.2.1 x.1.2.2.1 x.2.1.1 x.2.1.2.1, []⟩
theorem L13_12_Xexit2_ok : L13_12_Xexit2.ok Tryd.prog hint := by
  intro p hp
  simp only [L13_12_Xexit2, List.mem_cons, List.not_mem_nil, or_false] at hp
  rcases hp with rfl
  · trivial
theorem L13_12_Xret_ok : L13_12_Xret.ok Tryd.prog hint := by
  intro p hp
  simp only [L13_12_Xret, List.mem_cons, List.not_mem_nil, or_false] at hp
  rcases hp with rfl
  · trivial
theorem L13_12_T_ok : L13_12_T.ok Tryd.prog hint := by
  intro p hp
  simp only [L13_12_T, List.mem_cons, List.not_mem_nil, or_false] at hp
  rcases hp with rfl
  · trivial
theorem L13_12_ok : ∀ n, LoopOK Tryd.prog hint shT L13_12_it n :=
  LoopOK.of (hk := fun β => (Known.mk [] []).hk β) (sh := shT) (OneLoop.of (by kernel_rfl)) L13_12_T_ok ⟨⟨L13_12_Xexit2_ok, Nat.le_refl _, Nat.le_refl _⟩, ⟨L13_12_Xret_ok, Nat.le_refl _, Nat.le_refl _⟩, trivial⟩ (fun m => KnownOK.hook KnownOK.nil m)
    (fun _ => by kernel_rfl) (fun m x => by kernel_rfl)
noncomputable def rightR (n : Nat) (g : (List (Int × (List UInt8 × (List UInt8 × (List Int × Bool)))) × List Int)) : Option (Bool × Unit) :=
 bif (ilt (20000 : Int) (len g.1)) then
  some (false, ())
 else
 bif (ilt (20000 : Int) (len g.2)) then
  some (false, ())
 else
 Option.bind (L13_6 n (len g.1) (0 : Int) (0 : Int) g.1 g.2) fun y9 =>
 match y9 with
  | .inl y10 =>
   Option.bind (L13_12 (n + 6) y10.1.2.1 (0 : Int) y10.2.1.1 y10.2.1.2.1) fun y18 =>
   match y18 with
    | .inl _ =>
     some (true, ())
    | .inr y20 =>
     some (y20.1.1, ())
  | .inr y11 =>
   some (y11.1.1, ())
noncomputable def rightR_it : FnIt := ⟨13, [(true, (.cons (.slc (.cons (.int .i64) (.cons .str (.cons .str (.cons (.slc (.int .i64)) .bool))))) (.slc (.int .i64))))], [(false, .bool)], 6, fun n x => rightR n x.1⟩
theorem rightR_ok (n : Nat) : FnOK Tryd.prog hint shT rightR_it n :=
  FnOK.of (hk := fun β => (Known.mk [] [L13_12_it, L13_6_it]).hk β) (sh := shT) (fun m _ => KnownOK.hook ((KnownOK.nil.loop L13_6_ok L13_6_T_ok).loop L13_12_ok L13_12_T_ok) m) (fun x => by kernel_rfl)
noncomputable def mayR (n : Nat) (g : (List (Int × (List UInt8 × (List UInt8 × (List Int × Bool)))) × List Int)) (root : Int) : Option (Bool × Unit) :=
 Option.bind (rightR n (g.1, g.2)) fun y0 =>
 bif y0.1 then
  bif (ile (0 : Int) root) then
   some ((ilt root (len g.1)), ())
  else
  some (false, ())
 else
 some (false, ())
noncomputable def mayR_it : FnIt := ⟨20, [(true, (.cons (.slc (.cons (.int .i64) (.cons .str (.cons .str (.cons (.slc (.int .i64)) .bool))))) (.slc (.int .i64)))), (false, (.int .i64))], [(false, .bool)], 7, fun n x => mayR n x.1 x.2.1⟩
theorem mayR_ok (n : Nat) : FnOK Tryd.prog hint shT mayR_it n :=
  FnOK.of (hk := fun β => (Known.mk [rightR_it] []).hk β) (sh := shT) (fun m _ => KnownOK.hook (KnownOK.nil.fn rightR_ok) m) (fun x => by kernel_rfl)
end Go.Proofs.YtoiiimbhfdnomaaDoor
/- Plain functions for the program's. -/
namespace Go.Proofs.YtoiiimbhfdnomaaDoor
open Go Go.Iv Go.Gv
set_option maxRecDepth 100000
set_option linter.unusedVariables false
noncomputable def L25_4_Xexit0 : Tm := ⟨[], [], 64, 64, 1000⟩
noncomputable def L25_4_Xret : Tm := ⟨[(4, .one (.bool))], [], 64, 64, 1000⟩
noncomputable def L25_4_T : Tm := ⟨[(0, .one (.lst (.int .i64))), (1, .one (.lst (.int .i64))), (5, .one (.int .i64))], [], 64, 64, 1000⟩
noncomputable def L25_4 : Nat → (List Int) → (List Int) → Int → Option ((Unit × Unit) ⊕ ((Bool × Unit) × Unit))
 | 0, _, _, _ => none
 | n + 1, t0, t1, t5 =>
  bif (ilt t5 (len t0)) then
   bif (ile (0 : Int) t5) then
   Option.bind (t0[(Int.toNat t5)]?) fun x4 =>
   bif (ile (0 : Int) t5) then
   Option.bind (t1[(Int.toNat t5)]?) fun x5 =>
   bif (x4 != x5) then
    some (.inr ((false, ()), ()))
   else
   L25_4 n t0 t1 (IntKind.wrap .i64 (t5 + (1 : Int)))
   else none
   else none
  else
  some (.inl ((), ()))
noncomputable def L25_4_it : LoopIt := ⟨25, 4, none, L25_4_T, [(.exit 0, L25_4_Xexit0), (.ret, L25_4_Xret)], 0, fun n x => L25_4 n x.1.1 x.1.2.1 x.1.2.2.1, []⟩
theorem L25_4_Xexit0_ok : L25_4_Xexit0.ok Tryd.prog hint := by
  intro p hp
  cases hp
theorem L25_4_Xret_ok : L25_4_Xret.ok Tryd.prog hint := by
  intro p hp
  cases hp
theorem L25_4_T_ok : L25_4_T.ok Tryd.prog hint := by
  intro p hp
  cases hp
theorem L25_4_ok : ∀ n, LoopOK Tryd.prog hint shT L25_4_it n :=
  LoopOK.of (hk := fun β => (Known.mk [] []).hk β) (sh := shT) (OneLoop.of (by kernel_rfl)) L25_4_T_ok ⟨⟨L25_4_Xexit0_ok, Nat.le_refl _, Nat.le_refl _⟩, ⟨L25_4_Xret_ok, Nat.le_refl _, Nat.le_refl _⟩, trivial⟩ (fun m => KnownOK.hook KnownOK.nil m)
    (fun _ => by kernel_rfl) (fun m x => by kernel_rfl)
noncomputable def sameIntsR (n : Nat) (a : List Int) (b : List Int) : Option (Bool × Unit) :=
 bif ((len a) != (len b)) then
  some (false, ())
 else
 Option.bind (L25_4 (n + 1) a b (0 : Int)) fun y6 =>
 match y6 with
  | .inl _ =>
   some (true, ())
  | .inr y8 =>
   some (y8.1.1, ())
noncomputable def sameIntsR_it : FnIt := ⟨25, [(false, (.slc (.int .i64))), (false, (.slc (.int .i64)))], [(false, .bool)], 1, fun n x => sameIntsR n x.1 x.2.1⟩
theorem sameIntsR_ok (n : Nat) : FnOK Tryd.prog hint shT sameIntsR_it n :=
  FnOK.of (hk := fun β => (Known.mk [] [L25_4_it]).hk β) (sh := shT) (fun m _ => KnownOK.hook (KnownOK.nil.loop L25_4_ok L25_4_T_ok) m) (fun x => by kernel_rfl)
noncomputable def sameInts (n : Nat) (a : List Int) (b : List Int) : Option (Bool × Unit) :=
 Option.bind (sameIntsR n a b) fun y0 =>
 some (y0.1, ())
noncomputable def sameInts_it : FnIt := ⟨16, [(false, (.slc (.int .i64))), (false, (.slc (.int .i64)))], [(false, .bool)], 2, fun n x => sameInts n x.1 x.2.1⟩
theorem sameInts_ok (n : Nat) : FnOK Tryd.prog hint shT sameInts_it n :=
  FnOK.of (hk := fun β => (Known.mk [sameIntsR_it] []).hk β) (sh := shT) (fun m _ => KnownOK.hook (KnownOK.nil.fn sameIntsR_ok) m) (fun x => by kernel_rfl)
noncomputable def L11_4_Xexit0 : Tm := ⟨[], [(64, .cells 32 [.lst (.cons (.int .i64) (.cons .str (.cons .str (.cons (.slc (.int .i64)) .bool)))), .lst (.int .i64)] true), (65, .cells 32 [.lst (.cons (.int .i64) (.cons .str (.cons .str (.cons (.slc (.int .i64)) .bool)))), .lst (.int .i64)] true)], 66, 66, 1002⟩
noncomputable def L11_4_Xret : Tm := ⟨[(4, .one (.bool))], [(64, .cells 32 [.lst (.cons (.int .i64) (.cons .str (.cons .str (.cons (.slc (.int .i64)) .bool)))), .lst (.int .i64)] true), (65, .cells 32 [.lst (.cons (.int .i64) (.cons .str (.cons .str (.cons (.slc (.int .i64)) .bool)))), .lst (.int .i64)] true)], 66, 66, 1002⟩
noncomputable def L11_4_T : Tm := ⟨[(2, .one (.fix (TV.ptr 64 0))), (3, .one (.fix (TV.ptr 65 0))), (5, .one (.int .i64))], [(64, .cells 32 [.lst (.cons (.int .i64) (.cons .str (.cons .str (.cons (.slc (.int .i64)) .bool)))), .lst (.int .i64)] true), (65, .cells 32 [.lst (.cons (.int .i64) (.cons .str (.cons .str (.cons (.slc (.int .i64)) .bool)))), .lst (.int .i64)] true)], 66, 66, 1002⟩
noncomputable def L11_4 : Nat → Int → (List (Int × (List UInt8 × (List UInt8 × (List Int × Bool))))) → (List Int) → (List (Int × (List UInt8 × (List UInt8 × (List Int × Bool))))) → (List Int) → Option ((Unit × (((List (Int × (List UInt8 × (List UInt8 × (List Int × Bool))))) × ((List Int) × Unit)) × (((List (Int × (List UInt8 × (List UInt8 × (List Int × Bool))))) × ((List Int) × Unit)) × Unit))) ⊕ ((Bool × Unit) × (((List (Int × (List UInt8 × (List UInt8 × (List Int × Bool))))) × ((List Int) × Unit)) × (((List (Int × (List UInt8 × (List UInt8 × (List Int × Bool))))) × ((List Int) × Unit)) × Unit))))
 | 0, _, _, _, _, _ => none
 | n + 1, t5, c64_0, c64_1, c65_0, c65_1 =>
  bif (ilt t5 (len c64_0)) then
   bif (ile (0 : Int) t5) then
   Option.bind (c64_0[(Int.toNat t5)]?) fun x7 =>
   bif (ile (0 : Int) t5) then
   Option.bind (c65_0[(Int.toNat t5)]?) fun x8 =>
   bif (x7.1 != x8.1) then
    some (.inr ((false, ()), ((c64_0, (c64_1, ())), ((c65_0, (c65_1, ())), ()))))
   else
   bif (!(x7.2.1 == x8.2.1)) then
    some (.inr ((false, ()), ((c64_0, (c64_1, ())), ((c65_0, (c65_1, ())), ()))))
   else
   bif (!(x7.2.2.1 == x8.2.2.1)) then
    some (.inr ((false, ()), ((c64_0, (c64_1, ())), ((c65_0, (c65_1, ())), ()))))
   else
   bif (!(x7.2.2.2.2 == x8.2.2.2.2)) then
    some (.inr ((false, ()), ((c64_0, (c64_1, ())), ((c65_0, (c65_1, ())), ()))))
   else
   Option.bind (sameInts (n + 1) x7.2.2.2.1 x8.2.2.2.1) fun y9 =>
   bif (!y9.1) then
    some (.inr ((false, ()), ((c64_0, (c64_1, ())), ((c65_0, (c65_1, ())), ()))))
   else
   L11_4 n (IntKind.wrap .i64 (t5 + (1 : Int))) c64_0 c64_1 c65_0 c65_1
   else none
   else none
  else
  some (.inl ((), ((c64_0, (c64_1, ())), ((c65_0, (c65_1, ())), ()))))
noncomputable def L11_4_it : LoopIt := ⟨11, 4, none, L11_4_T, [(.exit 0, L11_4_Xexit0), (.ret, L11_4_Xret)], 3, fun n x => L11_4 n x.1.2.2.1 x.2.1.1 x.2.1.2.1 x.2.2.1.1 x.2.2.1.2.1, []⟩
theorem L11_4_Xexit0_ok : L11_4_Xexit0.ok Tryd.prog hint := by
  intro p hp
  simp only [L11_4_Xexit0, List.mem_cons, List.not_mem_nil, or_false] at hp
  rcases hp with rfl | rfl
  · trivial
  · trivial
theorem L11_4_Xret_ok : L11_4_Xret.ok Tryd.prog hint := by
  intro p hp
  simp only [L11_4_Xret, List.mem_cons, List.not_mem_nil, or_false] at hp
  rcases hp with rfl | rfl
  · trivial
  · trivial
theorem L11_4_T_ok : L11_4_T.ok Tryd.prog hint := by
  intro p hp
  simp only [L11_4_T, List.mem_cons, List.not_mem_nil, or_false] at hp
  rcases hp with rfl | rfl
  · trivial
  · trivial
theorem L11_4_ok : ∀ n, LoopOK Tryd.prog hint shT L11_4_it n :=
  LoopOK.of (hk := fun β => (Known.mk [sameInts_it] []).hk β) (sh := shT) (OneLoop.of (by kernel_rfl)) L11_4_T_ok ⟨⟨L11_4_Xexit0_ok, Nat.le_refl _, Nat.le_refl _⟩, ⟨L11_4_Xret_ok, Nat.le_refl _, Nat.le_refl _⟩, trivial⟩ (fun m => KnownOK.hook (KnownOK.nil.fn sameInts_ok) m)
    (fun _ => by kernel_rfl) (fun m x => by kernel_rfl)
noncomputable def sameGraph (n : Nat) (g : (List (Int × (List UInt8 × (List UInt8 × (List Int × Bool)))) × List Int)) (h : (List (Int × (List UInt8 × (List UInt8 × (List Int × Bool)))) × List Int)) : Option (Bool × Unit) :=
 bif ((len g.1) != (len h.1)) then
  some (false, ())
 else
 Option.bind (sameInts n g.2 h.2) fun y0 =>
 bif (!y0.1) then
  some (false, ())
 else
 Option.bind (L11_4 n (0 : Int) g.1 g.2 h.1 h.2) fun y10 =>
 match y10 with
  | .inl _ =>
   some (true, ())
  | .inr y12 =>
   some (y12.1.1, ())
noncomputable def sameGraph_it : FnIt := ⟨11, [(true, (.cons (.slc (.cons (.int .i64) (.cons .str (.cons .str (.cons (.slc (.int .i64)) .bool))))) (.slc (.int .i64)))), (true, (.cons (.slc (.cons (.int .i64) (.cons .str (.cons .str (.cons (.slc (.int .i64)) .bool))))) (.slc (.int .i64))))], [(false, .bool)], 3, fun n x => sameGraph n x.1 x.2.1⟩
theorem sameGraph_ok (n : Nat) : FnOK Tryd.prog hint shT sameGraph_it n :=
  FnOK.of (hk := fun β => (Known.mk [sameInts_it] [L11_4_it]).hk β) (sh := shT) (fun m _ => KnownOK.hook ((KnownOK.nil.fn sameInts_ok).loop L11_4_ok L11_4_T_ok) m) (fun x => by kernel_rfl)
noncomputable def digitsR_or (Fr : Nat → Int → Option ((List UInt8) × Unit)) : FnIt := ⟨18, [(false, (.int .i64))], [(false, .str)], 0, fun n x => Fr n x.1⟩
noncomputable def digitsR_b (Fr : Nat → Int → Option ((List UInt8) × Unit)) (n : Nat) (m : Int) : Option ((List UInt8) × Unit) :=
 bif ((ile (0 : Int) (IntKind.wrap .i64 ((Int.tmod m (10 : Int)) + (1 : Int)))) && (ile (IntKind.wrap .i64 ((Int.tmod m (10 : Int)) + (1 : Int))) (10 : Int))) then
 bif ((ile (0 : Int) (Int.tmod m (10 : Int))) && (ile (Int.tmod m (10 : Int)) (((Int.toNat (IntKind.wrap .i64 ((Int.tmod m (10 : Int)) + (1 : Int)))) : Nat) : Int))) then
 bif (ilt (9 : Int) m) then
  Option.bind (Fr n (IntKind.wrap .i64 (Int.tdiv m (10 : Int)))) fun y0 =>
  bif (room ((List.length y0.1) + (List.length (List.take ((Int.toNat (IntKind.wrap .i64 ((Int.tmod m (10 : Int)) + (1 : Int)))) - (Int.toNat (Int.tmod m (10 : Int)))) (List.drop (Int.toNat (Int.tmod m (10 : Int))) ([(48 : UInt8), (49 : UInt8), (50 : UInt8), (51 : UInt8), (52 : UInt8), (53 : UInt8), (54 : UInt8), (55 : UInt8), (56 : UInt8), (57 : UInt8)] : List UInt8)))))) then
  some ((y0.1 ++ (List.take ((Int.toNat (IntKind.wrap .i64 ((Int.tmod m (10 : Int)) + (1 : Int)))) - (Int.toNat (Int.tmod m (10 : Int)))) (List.drop (Int.toNat (Int.tmod m (10 : Int))) ([(48 : UInt8), (49 : UInt8), (50 : UInt8), (51 : UInt8), (52 : UInt8), (53 : UInt8), (54 : UInt8), (55 : UInt8), (56 : UInt8), (57 : UInt8)] : List UInt8)))), ())
  else none
 else
 some ((List.take ((Int.toNat (IntKind.wrap .i64 ((Int.tmod m (10 : Int)) + (1 : Int)))) - (Int.toNat (Int.tmod m (10 : Int)))) (List.drop (Int.toNat (Int.tmod m (10 : Int))) ([(48 : UInt8), (49 : UInt8), (50 : UInt8), (51 : UInt8), (52 : UInt8), (53 : UInt8), (54 : UInt8), (55 : UInt8), (56 : UInt8), (57 : UInt8)] : List UInt8))), ())
 else none
 else none
noncomputable def digitsR_bit (Fr : Nat → Int → Option ((List UInt8) × Unit)) : FnIt := ⟨18, [(false, (.int .i64))], [(false, .str)], 1, fun n x => digitsR_b Fr n x.1⟩
theorem digitsR_bok (Fr : Nat → Int → Option ((List UInt8) × Unit)) (hFr : ∀ m, FnOK Tryd.prog hint shT (digitsR_or Fr) m) (n : Nat) : FnOK Tryd.prog hint shT (digitsR_bit Fr) n :=
  FnOK.of (hk := fun β => (Known.mk [(digitsR_or Fr)] []).hk β) (sh := shT) (fun m _ => KnownOK.hook (KnownOK.nil.fn hFr) m) (fun x => by kernel_rfl)
noncomputable def digitsR_d : Nat → Nat → Int → Option ((List UInt8) × Unit)
 | 0, _, _ => none
 | d + 1, n, m => bif Nat.ble 1 n then digitsR_b (digitsR_d d) (n - 1) m else none
noncomputable def digitsR (n : Nat) (m : Int) : Option ((List UInt8) × Unit) := digitsR_d n n m
noncomputable def digitsR_it : FnIt := ⟨18, [(false, (.int .i64))], [(false, .str)], 0, fun n x => digitsR n x.1⟩
theorem digitsR_ok (n : Nat) : FnOK Tryd.prog hint shT digitsR_it n :=
  FnOK.diag (f := 18) (pa := [(false, (.int .i64))]) (re := [(false, .str)]) (fun d n x => digitsR_d d n x.1) (FnOK.byDepth (f := 18) (pa := [(false, (.int .i64))]) (re := [(false, .str)]) (D := 1) (fun G n x => digitsR_b (fun n m => G n (m, ())) n x.1) _ (fun _ _ => rfl) (fun _ _ _ => rfl) (fun G h n => digitsR_bok (fun n m => G n (m, ())) h n)) n
noncomputable def cutR (_n : Nat) (a : Int) (b : Int) : Option (Int × Unit) :=
 bif (ilt a (0 : Int)) then
  some ((0 : Int), ())
 else
 bif (ilt b a) then
  some (b, ())
 else
 some (a, ())
noncomputable def cutR_it : FnIt := ⟨17, [(false, (.int .i64)), (false, (.int .i64))], [(false, (.int .i64))], 0, fun n x => cutR n x.1 x.2.1⟩
theorem cutR_ok (n : Nat) : FnOK Tryd.prog hint shT cutR_it n :=
  FnOK.of (hk := fun β => (Known.mk [] []).hk β) (sh := shT) (fun m _ => KnownOK.hook KnownOK.nil m) (fun x => by kernel_rfl)
noncomputable def dflt (_n : Nat) (k : Int) : Option ((List UInt8) × Unit) :=
 bif (k == (1 : Int)) then
  some (([(116 : UInt8), (97 : UInt8), (103 : UInt8), (58 : UInt8), (121 : UInt8), (97 : UInt8), (109 : UInt8), (108 : UInt8), (46 : UInt8), (111 : UInt8), (114 : UInt8), (103 : UInt8), (44 : UInt8), (50 : UInt8), (48 : UInt8), (48 : UInt8), (50 : UInt8), (58 : UInt8), (115 : UInt8), (116 : UInt8), (114 : UInt8)] : List UInt8), ())
 else
 bif (k == (2 : Int)) then
  some (([(116 : UInt8), (97 : UInt8), (103 : UInt8), (58 : UInt8), (121 : UInt8), (97 : UInt8), (109 : UInt8), (108 : UInt8), (46 : UInt8), (111 : UInt8), (114 : UInt8), (103 : UInt8), (44 : UInt8), (50 : UInt8), (48 : UInt8), (48 : UInt8), (50 : UInt8), (58 : UInt8), (115 : UInt8), (101 : UInt8), (113 : UInt8)] : List UInt8), ())
 else
 bif (k == (3 : Int)) then
  some (([(116 : UInt8), (97 : UInt8), (103 : UInt8), (58 : UInt8), (121 : UInt8), (97 : UInt8), (109 : UInt8), (108 : UInt8), (46 : UInt8), (111 : UInt8), (114 : UInt8), (103 : UInt8), (44 : UInt8), (50 : UInt8), (48 : UInt8), (48 : UInt8), (50 : UInt8), (58 : UInt8), (109 : UInt8), (97 : UInt8), (112 : UInt8)] : List UInt8), ())
 else
 some (([] : List UInt8), ())
noncomputable def dflt_it : FnIt := ⟨22, [(false, (.int .i64))], [(false, .str)], 0, fun n x => dflt n x.1⟩
theorem dflt_ok (n : Nat) : FnOK Tryd.prog hint shT dflt_it n :=
  FnOK.of (hk := fun β => (Known.mk [] []).hk β) (sh := shT) (fun m _ => KnownOK.hook KnownOK.nil m) (fun x => by kernel_rfl)
end Go.Proofs.YtoiiimbhfdnomaaDoor
/- Plain functions for the program's. -/
namespace Go.Proofs.YtoiiimbhfdnomaaDoor
open Go Go.Iv Go.Gv
set_option maxRecDepth 100000
set_option linter.unusedVariables false
noncomputable def L12_18_Xexit2 : Tm := ⟨[(1, .one (.int .i64)), (4, .one (.fix (TV.ptr 64 0))), (5, .one (.fix (TV.ptr 65 0))), (6, .one (.fix (TV.ptr 67 0))), (7, .one (.int .i64)), (8, .one (.fix (TV.ptr 69 0)))], [(64, .cells 32 [.fix (TV.raw (Go.Value.slice (Option.none) 0 0)), .fix (TV.raw (Go.Value.slice (Option.none) 0 0))] true), (65, .cells 43 [.int .i64] true), (67, .cells 32 [.fix (TV.raw (Go.Value.slice (Option.none) 0 0)), .all 70 3 (.int .i64) .no] true), (69, .cells 39 [.int .i64, .str, .str, .all 71 3 (.int .i64) .ex, .bool] true)], 70, 72, 2012⟩
noncomputable def L12_18_T : Tm := ⟨[(1, .one (.int .i64)), (4, .one (.fix (TV.ptr 64 0))), (5, .one (.fix (TV.ptr 65 0))), (6, .one (.fix (TV.ptr 67 0))), (7, .one (.int .i64)), (8, .one (.fix (TV.ptr 69 0))), (10, .one (.int .i64)), (11, .one (.int .i64))], [(64, .cells 32 [.fix (TV.raw (Go.Value.slice (Option.none) 0 0)), .fix (TV.raw (Go.Value.slice (Option.none) 0 0))] true), (65, .cells 43 [.int .i64] true), (67, .cells 32 [.fix (TV.raw (Go.Value.slice (Option.none) 0 0)), .all 70 3 (.int .i64) .no] true), (69, .cells 39 [.int .i64, .str, .str, .all 71 3 (.int .i64) .ex, .bool] true)], 70, 72, 2012⟩
noncomputable def L12_18 : Nat → Int → Int → Int → Int → Int → (List Int) → Int → (List UInt8) → (List UInt8) → (List Int) → Bool → Option ((Int × (Unit × (Unit × (Unit × (Int × (Unit × Unit)))))) × ((Unit × (Unit × Unit)) × ((Int × Unit) × ((Unit × ((List Int) × Unit)) × ((Int × ((List UInt8) × ((List UInt8) × ((List Int) × (Bool × Unit))))) × Unit)))))
 | 0, _, _, _, _, _, _, _, _, _, _, _ => none
 | n + 1, t1, t7, t10, t11, c65_0, c67_1, c69_0, c69_1, c69_2, c69_3, c69_4 =>
  bif (ilt t11 t10) then
   bif (ilt (IntKind.wrap .i64 ((IntKind.wrap .i64 (t1 - (1 : Int))) - t7)) (1 : Int)) then
    bif (room (((List.length c69_3) + (List.length ((IntKind.wrap .i64 ((IntKind.wrap .i64 (t7 + (1 : Int))) + (0 : Int))) :: ([] : List Int)))) * 9)) then
    L12_18 n t1 t7 t10 (IntKind.wrap .i64 (t11 + (1 : Int))) (andI Go.IntKind.i64 (IntKind.wrap .i64 ((IntKind.wrap .i64 (c65_0 * (1664525 : Int))) + (1013904223 : Int))) (4294967295 : Int)) c67_1 c69_0 c69_1 c69_2 (c69_3 ++ ((IntKind.wrap .i64 ((IntKind.wrap .i64 (t7 + (1 : Int))) + (0 : Int))) :: ([] : List Int))) c69_4
    else none
   else
   bif ((IntKind.wrap .i64 ((IntKind.wrap .i64 (t1 - (1 : Int))) - t7)) != (0 : Int)) then
   bif (room (((List.length c69_3) + (List.length ((IntKind.wrap .i64 ((IntKind.wrap .i64 (t7 + (1 : Int))) + (Int.tmod (shrI Go.IntKind.i64 (andI Go.IntKind.i64 (IntKind.wrap .i64 ((IntKind.wrap .i64 (c65_0 * (1664525 : Int))) + (1013904223 : Int))) (4294967295 : Int)) 8) (IntKind.wrap .i64 ((IntKind.wrap .i64 (t1 - (1 : Int))) - t7))))) :: ([] : List Int)))) * 9)) then
   L12_18 n t1 t7 t10 (IntKind.wrap .i64 (t11 + (1 : Int))) (andI Go.IntKind.i64 (IntKind.wrap .i64 ((IntKind.wrap .i64 (c65_0 * (1664525 : Int))) + (1013904223 : Int))) (4294967295 : Int)) c67_1 c69_0 c69_1 c69_2 (c69_3 ++ ((IntKind.wrap .i64 ((IntKind.wrap .i64 (t7 + (1 : Int))) + (Int.tmod (shrI Go.IntKind.i64 (andI Go.IntKind.i64 (IntKind.wrap .i64 ((IntKind.wrap .i64 (c65_0 * (1664525 : Int))) + (1013904223 : Int))) (4294967295 : Int)) 8) (IntKind.wrap .i64 ((IntKind.wrap .i64 (t1 - (1 : Int))) - t7))))) :: ([] : List Int))) c69_4
   else none
   else none
  else
  some ((t1, ((), ((), ((), (t7, ((), ())))))), (((), ((), ())), ((c65_0, ()), (((), (c67_1, ())), ((c69_0, (c69_1, (c69_2, (c69_3, (c69_4, ()))))), ())))))
noncomputable def L12_18_it : LoopIt := ⟨12, 18, none, L12_18_T, [(.exit 2, L12_18_Xexit2)], 1, fun n x => L12_18 n x.1.1 x.1.2.2.2.2.1 x.1.2.2.2.2.2.2.1 x.1.2.2.2.2.2.2.2.1 x.2.2.1.1 x.2.2.2.1.2.1 x.2.2.2.2.1.1 x.2.2.2.2.1.2.1 x.2.2.2.2.1.2.2.1 x.2.2.2.2.1.2.2.2.1 x.2.2.2.2.1.2.2.2.2.1, []⟩
theorem L12_18_Xexit2_ok : L12_18_Xexit2.ok Tryd.prog hint := by
  intro p hp
  simp only [L12_18_Xexit2, List.mem_cons, List.not_mem_nil, or_false] at hp
  rcases hp with rfl | rfl | rfl | rfl
  · trivial
  · trivial
  · trivial
  · trivial
theorem L12_18_T_ok : L12_18_T.ok Tryd.prog hint := by
  intro p hp
  simp only [L12_18_T, List.mem_cons, List.not_mem_nil, or_false] at hp
  rcases hp with rfl | rfl | rfl | rfl
  · trivial
  · trivial
  · trivial
  · trivial
theorem L12_18_ok : ∀ n, LoopOK Tryd.prog hint shT L12_18_it n :=
  LoopOK.of (hk := fun β => (Known.mk [] []).hk β) (sh := shT) (OneLoop.of (by kernel_rfl)) L12_18_T_ok ⟨⟨L12_18_Xexit2_ok, Nat.le_refl _, Nat.le_refl _⟩, trivial⟩ (fun m => KnownOK.hook KnownOK.nil m)
    (fun _ => by kernel_rfl) (fun m x => by kernel_rfl)
noncomputable def L12_18_71_Xexit2 : Tm := ⟨[(1, .one (.int .i64)), (4, .one (.fix (TV.ptr 64 0))), (5, .one (.fix (TV.ptr 65 0))), (6, .one (.fix (TV.ptr 67 0))), (7, .one (.int .i64)), (8, .one (.fix (TV.ptr 70 0)))], [(64, .cells 32 [.fix (TV.raw (Go.Value.slice (Option.none) 0 0)), .fix (TV.raw (Go.Value.slice (Option.none) 0 0))] true), (65, .cells 43 [.int .i64] true), (67, .cells 32 [.all 71 39 (.cons (.int .i64) (.cons .str (.cons .str (.cons (.slc (.int .i64)) .bool)))) .ex, .all 72 3 (.int .i64) .no] true), (70, .cells 39 [.int .i64, .str, .str, .all 73 3 (.int .i64) .ex, .bool] true)], 71, 74, 2012⟩
noncomputable def L12_18_71_T : Tm := ⟨[(1, .one (.int .i64)), (4, .one (.fix (TV.ptr 64 0))), (5, .one (.fix (TV.ptr 65 0))), (6, .one (.fix (TV.ptr 67 0))), (7, .one (.int .i64)), (8, .one (.fix (TV.ptr 70 0))), (10, .one (.int .i64)), (11, .one (.int .i64))], [(64, .cells 32 [.fix (TV.raw (Go.Value.slice (Option.none) 0 0)), .fix (TV.raw (Go.Value.slice (Option.none) 0 0))] true), (65, .cells 43 [.int .i64] true), (67, .cells 32 [.all 71 39 (.cons (.int .i64) (.cons .str (.cons .str (.cons (.slc (.int .i64)) .bool)))) .ex, .all 72 3 (.int .i64) .no] true), (70, .cells 39 [.int .i64, .str, .str, .all 73 3 (.int .i64) .ex, .bool] true)], 71, 74, 2012⟩
noncomputable def L12_18_71 : Nat → Int → Int → Int → Int → Int → (List (Int × (List UInt8 × (List UInt8 × (List Int × Bool))))) → (List Int) → Int → (List UInt8) → (List UInt8) → (List Int) → Bool → Option ((Int × (Unit × (Unit × (Unit × (Int × (Unit × Unit)))))) × ((Unit × (Unit × Unit)) × ((Int × Unit) × (((List (Int × (List UInt8 × (List UInt8 × (List Int × Bool))))) × ((List Int) × Unit)) × ((Int × ((List UInt8) × ((List UInt8) × ((List Int) × (Bool × Unit))))) × Unit)))))
 | 0, _, _, _, _, _, _, _, _, _, _, _, _ => none
 | n + 1, t1, t7, t10, t11, c65_0, c67_0, c67_1, c70_0, c70_1, c70_2, c70_3, c70_4 =>
  bif (ilt t11 t10) then
   bif (ilt (IntKind.wrap .i64 ((IntKind.wrap .i64 (t1 - (1 : Int))) - t7)) (1 : Int)) then
    bif (room (((List.length c70_3) + (List.length ((IntKind.wrap .i64 ((IntKind.wrap .i64 (t7 + (1 : Int))) + (0 : Int))) :: ([] : List Int)))) * 9)) then
    L12_18_71 n t1 t7 t10 (IntKind.wrap .i64 (t11 + (1 : Int))) (andI Go.IntKind.i64 (IntKind.wrap .i64 ((IntKind.wrap .i64 (c65_0 * (1664525 : Int))) + (1013904223 : Int))) (4294967295 : Int)) c67_0 c67_1 c70_0 c70_1 c70_2 (c70_3 ++ ((IntKind.wrap .i64 ((IntKind.wrap .i64 (t7 + (1 : Int))) + (0 : Int))) :: ([] : List Int))) c70_4
    else none
   else
   bif ((IntKind.wrap .i64 ((IntKind.wrap .i64 (t1 - (1 : Int))) - t7)) != (0 : Int)) then
   bif (room (((List.length c70_3) + (List.length ((IntKind.wrap .i64 ((IntKind.wrap .i64 (t7 + (1 : Int))) + (Int.tmod (shrI Go.IntKind.i64 (andI Go.IntKind.i64 (IntKind.wrap .i64 ((IntKind.wrap .i64 (c65_0 * (1664525 : Int))) + (1013904223 : Int))) (4294967295 : Int)) 8) (IntKind.wrap .i64 ((IntKind.wrap .i64 (t1 - (1 : Int))) - t7))))) :: ([] : List Int)))) * 9)) then
   L12_18_71 n t1 t7 t10 (IntKind.wrap .i64 (t11 + (1 : Int))) (andI Go.IntKind.i64 (IntKind.wrap .i64 ((IntKind.wrap .i64 (c65_0 * (1664525 : Int))) + (1013904223 : Int))) (4294967295 : Int)) c67_0 c67_1 c70_0 c70_1 c70_2 (c70_3 ++ ((IntKind.wrap .i64 ((IntKind.wrap .i64 (t7 + (1 : Int))) + (Int.tmod (shrI Go.IntKind.i64 (andI Go.IntKind.i64 (IntKind.wrap .i64 ((IntKind.wrap .i64 (c65_0 * (1664525 : Int))) + (1013904223 : Int))) (4294967295 : Int)) 8) (IntKind.wrap .i64 ((IntKind.wrap .i64 (t1 - (1 : Int))) - t7))))) :: ([] : List Int))) c70_4
   else none
   else none
  else
  some ((t1, ((), ((), ((), (t7, ((), ())))))), (((), ((), ())), ((c65_0, ()), ((c67_0, (c67_1, ())), ((c70_0, (c70_1, (c70_2, (c70_3, (c70_4, ()))))), ())))))
noncomputable def L12_18_71_it : LoopIt := ⟨12, 18, none, L12_18_71_T, [(.exit 2, L12_18_71_Xexit2)], 1, fun n x => L12_18_71 n x.1.1 x.1.2.2.2.2.1 x.1.2.2.2.2.2.2.1 x.1.2.2.2.2.2.2.2.1 x.2.2.1.1 x.2.2.2.1.1 x.2.2.2.1.2.1 x.2.2.2.2.1.1 x.2.2.2.2.1.2.1 x.2.2.2.2.1.2.2.1 x.2.2.2.2.1.2.2.2.1 x.2.2.2.2.1.2.2.2.2.1, []⟩
theorem L12_18_71_Xexit2_ok : L12_18_71_Xexit2.ok Tryd.prog hint := by
  intro p hp
  simp only [L12_18_71_Xexit2, List.mem_cons, List.not_mem_nil, or_false] at hp
  rcases hp with rfl | rfl | rfl | rfl
  · trivial
  · trivial
  · trivial
  · trivial
theorem L12_18_71_T_ok : L12_18_71_T.ok Tryd.prog hint := by
  intro p hp
  simp only [L12_18_71_T, List.mem_cons, List.not_mem_nil, or_false] at hp
  rcases hp with rfl | rfl | rfl | rfl
  · trivial
  · trivial
  · trivial
  · trivial
theorem L12_18_71_ok : ∀ n, LoopOK Tryd.prog hint shT L12_18_71_it n :=
  LoopOK.of (hk := fun β => (Known.mk [] []).hk β) (sh := shT) (OneLoop.of (by kernel_rfl)) L12_18_71_T_ok ⟨⟨L12_18_71_Xexit2_ok, Nat.le_refl _, Nat.le_refl _⟩, trivial⟩ (fun m => KnownOK.hook KnownOK.nil m)
    (fun _ => by kernel_rfl) (fun m x => by kernel_rfl)
noncomputable def L12_7_Xexit0 : Tm := ⟨[(4, .one (.fix (TV.ptr 64 0))), (6, .one (.fix (TV.ptr 67 0)))], [(64, .cells 32 [.fix (TV.raw (Go.Value.slice (Option.none) 0 0)), .fix (TV.raw (Go.Value.slice (Option.none) 0 0))] true), (65, .cells 43 [.int .i64] true), (67, .cells 32 [.all 68 39 (.cons (.int .i64) (.cons .str (.cons .str (.cons (.slc (.int .i64)) .bool)))) .ex, .all 69 3 (.int .i64) .no] true)], 68, 70, 1005⟩
noncomputable def L12_7_T : Tm := ⟨[(1, .one (.int .i64)), (4, .one (.fix (TV.ptr 64 0))), (5, .one (.fix (TV.ptr 65 0))), (6, .one (.fix (TV.ptr 67 0))), (7, .one (.int .i64))], [(64, .cells 32 [.fix (TV.raw (Go.Value.slice (Option.none) 0 0)), .fix (TV.raw (Go.Value.slice (Option.none) 0 0))] true), (65, .cells 43 [.int .i64] true), (67, .cells 32 [.all 68 39 (.cons (.int .i64) (.cons .str (.cons .str (.cons (.slc (.int .i64)) .bool)))) .ex, .all 69 3 (.int .i64) .no] true)], 68, 70, 1005⟩
noncomputable def L12_7 : Nat → Int → Int → Int → (List (Int × (List UInt8 × (List UInt8 × (List Int × Bool))))) → (List Int) → Option ((Unit × (Unit × Unit)) × ((Unit × (Unit × Unit)) × ((Int × Unit) × (((List (Int × (List UInt8 × (List UInt8 × (List Int × Bool))))) × ((List Int) × Unit)) × Unit))))
 | 0, _, _, _, _, _ => none
 | n + 1, t1, t7, c65_0, c67_0, c67_1 =>
  bif (ilt t7 t1) then
   bif (t7 == (IntKind.wrap .i64 (t1 - (1 : Int)))) then
    Option.bind (digitsR (n + 1) t7) fun y13 =>
    bif (room ((List.length ([(115 : UInt8)] : List UInt8)) + (List.length y13.1))) then
    bif (room (((List.length c67_0) + (List.length (((1 : Int), (([(116 : UInt8), (97 : UInt8), (103 : UInt8), (58 : UInt8), (121 : UInt8), (97 : UInt8), (109 : UInt8), (108 : UInt8), (46 : UInt8), (111 : UInt8), (114 : UInt8), (103 : UInt8), (44 : UInt8), (50 : UInt8), (48 : UInt8), (48 : UInt8), (50 : UInt8), (58 : UInt8), (115 : UInt8), (116 : UInt8), (114 : UInt8)] : List UInt8), ((([(115 : UInt8)] : List UInt8) ++ y13.1), (([] : List Int), true)))) :: []))) * 73)) then
    L12_7 n t1 (IntKind.wrap .i64 (t7 + (1 : Int))) c65_0 (c67_0 ++ (((1 : Int), (([(116 : UInt8), (97 : UInt8), (103 : UInt8), (58 : UInt8), (121 : UInt8), (97 : UInt8), (109 : UInt8), (108 : UInt8), (46 : UInt8), (111 : UInt8), (114 : UInt8), (103 : UInt8), (44 : UInt8), (50 : UInt8), (48 : UInt8), (48 : UInt8), (50 : UInt8), (58 : UInt8), (115 : UInt8), (116 : UInt8), (114 : UInt8)] : List UInt8), ((([(115 : UInt8)] : List UInt8) ++ y13.1), (([] : List Int), true)))) :: [])) c67_1
    else none
    else none
   else
   bif ((Int.tmod (shrI Go.IntKind.i64 (andI Go.IntKind.i64 (IntKind.wrap .i64 ((IntKind.wrap .i64 (c65_0 * (1664525 : Int))) + (1013904223 : Int))) (4294967295 : Int)) 8) (3 : Int)) == (0 : Int)) then
    Option.bind (digitsR (n + 1) t7) fun y14 =>
    bif (room ((List.length ([(115 : UInt8)] : List UInt8)) + (List.length y14.1))) then
    bif (room (((List.length c67_0) + (List.length (((1 : Int), (([(116 : UInt8), (97 : UInt8), (103 : UInt8), (58 : UInt8), (121 : UInt8), (97 : UInt8), (109 : UInt8), (108 : UInt8), (46 : UInt8), (111 : UInt8), (114 : UInt8), (103 : UInt8), (44 : UInt8), (50 : UInt8), (48 : UInt8), (48 : UInt8), (50 : UInt8), (58 : UInt8), (115 : UInt8), (116 : UInt8), (114 : UInt8)] : List UInt8), ((([(115 : UInt8)] : List UInt8) ++ y14.1), (([] : List Int), true)))) :: []))) * 73)) then
    L12_7 n t1 (IntKind.wrap .i64 (t7 + (1 : Int))) (andI Go.IntKind.i64 (IntKind.wrap .i64 ((IntKind.wrap .i64 (c65_0 * (1664525 : Int))) + (1013904223 : Int))) (4294967295 : Int)) (c67_0 ++ (((1 : Int), (([(116 : UInt8), (97 : UInt8), (103 : UInt8), (58 : UInt8), (121 : UInt8), (97 : UInt8), (109 : UInt8), (108 : UInt8), (46 : UInt8), (111 : UInt8), (114 : UInt8), (103 : UInt8), (44 : UInt8), (50 : UInt8), (48 : UInt8), (48 : UInt8), (50 : UInt8), (58 : UInt8), (115 : UInt8), (116 : UInt8), (114 : UInt8)] : List UInt8), ((([(115 : UInt8)] : List UInt8) ++ y14.1), (([] : List Int), true)))) :: [])) c67_1
    else none
    else none
   else
   bif ((Int.tmod (shrI Go.IntKind.i64 (andI Go.IntKind.i64 (IntKind.wrap .i64 ((IntKind.wrap .i64 ((andI Go.IntKind.i64 (IntKind.wrap .i64 ((IntKind.wrap .i64 (c65_0 * (1664525 : Int))) + (1013904223 : Int))) (4294967295 : Int)) * (1664525 : Int))) + (1013904223 : Int))) (4294967295 : Int)) 8) (2 : Int)) == (1 : Int)) then
    Option.bind (L12_18_71 (n + 1) t1 t7 (IntKind.wrap .i64 ((Int.tmod (shrI Go.IntKind.i64 (andI Go.IntKind.i64 (IntKind.wrap .i64 ((IntKind.wrap .i64 ((andI Go.IntKind.i64 (IntKind.wrap .i64 ((IntKind.wrap .i64 ((andI Go.IntKind.i64 (IntKind.wrap .i64 ((IntKind.wrap .i64 (c65_0 * (1664525 : Int))) + (1013904223 : Int))) (4294967295 : Int)) * (1664525 : Int))) + (1013904223 : Int))) (4294967295 : Int)) * (1664525 : Int))) + (1013904223 : Int))) (4294967295 : Int)) 8) (3 : Int)) * (2 : Int))) (0 : Int) (andI Go.IntKind.i64 (IntKind.wrap .i64 ((IntKind.wrap .i64 ((andI Go.IntKind.i64 (IntKind.wrap .i64 ((IntKind.wrap .i64 ((andI Go.IntKind.i64 (IntKind.wrap .i64 ((IntKind.wrap .i64 (c65_0 * (1664525 : Int))) + (1013904223 : Int))) (4294967295 : Int)) * (1664525 : Int))) + (1013904223 : Int))) (4294967295 : Int)) * (1664525 : Int))) + (1013904223 : Int))) (4294967295 : Int)) c67_0 c67_1 (3 : Int) ([(116 : UInt8), (97 : UInt8), (103 : UInt8), (58 : UInt8), (121 : UInt8), (97 : UInt8), (109 : UInt8), (108 : UInt8), (46 : UInt8), (111 : UInt8), (114 : UInt8), (103 : UInt8), (44 : UInt8), (50 : UInt8), (48 : UInt8), (48 : UInt8), (50 : UInt8), (58 : UInt8), (109 : UInt8), (97 : UInt8), (112 : UInt8)] : List UInt8) ([] : List UInt8) ([] : List Int) false) fun y15 =>
    bif (room (((List.length y15.2.2.2.1.1) + (List.length ((y15.2.2.2.2.1.1, (y15.2.2.2.2.1.2.1, (y15.2.2.2.2.1.2.2.1, (y15.2.2.2.2.1.2.2.2.1, y15.2.2.2.2.1.2.2.2.2.1)))) :: []))) * 73)) then
    L12_7 n y15.1.1 (IntKind.wrap .i64 (y15.1.2.2.2.2.1 + (1 : Int))) y15.2.2.1.1 (y15.2.2.2.1.1 ++ ((y15.2.2.2.2.1.1, (y15.2.2.2.2.1.2.1, (y15.2.2.2.2.1.2.2.1, (y15.2.2.2.2.1.2.2.2.1, y15.2.2.2.2.1.2.2.2.2.1)))) :: [])) y15.2.2.2.1.2.1
    else none
   else
   Option.bind (L12_18_71 (n + 1) t1 t7 (IntKind.wrap .i64 ((Int.tmod (shrI Go.IntKind.i64 (andI Go.IntKind.i64 (IntKind.wrap .i64 ((IntKind.wrap .i64 ((andI Go.IntKind.i64 (IntKind.wrap .i64 ((IntKind.wrap .i64 ((andI Go.IntKind.i64 (IntKind.wrap .i64 ((IntKind.wrap .i64 (c65_0 * (1664525 : Int))) + (1013904223 : Int))) (4294967295 : Int)) * (1664525 : Int))) + (1013904223 : Int))) (4294967295 : Int)) * (1664525 : Int))) + (1013904223 : Int))) (4294967295 : Int)) 8) (3 : Int)) * (1 : Int))) (0 : Int) (andI Go.IntKind.i64 (IntKind.wrap .i64 ((IntKind.wrap .i64 ((andI Go.IntKind.i64 (IntKind.wrap .i64 ((IntKind.wrap .i64 ((andI Go.IntKind.i64 (IntKind.wrap .i64 ((IntKind.wrap .i64 (c65_0 * (1664525 : Int))) + (1013904223 : Int))) (4294967295 : Int)) * (1664525 : Int))) + (1013904223 : Int))) (4294967295 : Int)) * (1664525 : Int))) + (1013904223 : Int))) (4294967295 : Int)) c67_0 c67_1 (2 : Int) ([(116 : UInt8), (97 : UInt8), (103 : UInt8), (58 : UInt8), (121 : UInt8), (97 : UInt8), (109 : UInt8), (108 : UInt8), (46 : UInt8), (111 : UInt8), (114 : UInt8), (103 : UInt8), (44 : UInt8), (50 : UInt8), (48 : UInt8), (48 : UInt8), (50 : UInt8), (58 : UInt8), (115 : UInt8), (101 : UInt8), (113 : UInt8)] : List UInt8) ([] : List UInt8) ([] : List Int) false) fun y16 =>
   bif (room (((List.length y16.2.2.2.1.1) + (List.length ((y16.2.2.2.2.1.1, (y16.2.2.2.2.1.2.1, (y16.2.2.2.2.1.2.2.1, (y16.2.2.2.2.1.2.2.2.1, y16.2.2.2.2.1.2.2.2.2.1)))) :: []))) * 73)) then
   L12_7 n y16.1.1 (IntKind.wrap .i64 (y16.1.2.2.2.2.1 + (1 : Int))) y16.2.2.1.1 (y16.2.2.2.1.1 ++ ((y16.2.2.2.2.1.1, (y16.2.2.2.2.1.2.1, (y16.2.2.2.2.1.2.2.1, (y16.2.2.2.2.1.2.2.2.1, y16.2.2.2.2.1.2.2.2.2.1)))) :: [])) y16.2.2.2.1.2.1
   else none
  else
  some (((), ((), ())), (((), ((), ())), ((c65_0, ()), ((c67_0, (c67_1, ())), ()))))
noncomputable def L12_7_it : LoopIt := ⟨12, 7, none, L12_7_T, [(.exit 0, L12_7_Xexit0)], 1, fun n x => L12_7 n x.1.1 x.1.2.2.2.2.1 x.2.2.1.1 x.2.2.2.1.1 x.2.2.2.1.2.1, []⟩
theorem L12_7_Xexit0_ok : L12_7_Xexit0.ok Tryd.prog hint := by
  intro p hp
  simp only [L12_7_Xexit0, List.mem_cons, List.not_mem_nil, or_false] at hp
  rcases hp with rfl | rfl | rfl
  · trivial
  · trivial
  · trivial
theorem L12_7_T_ok : L12_7_T.ok Tryd.prog hint := by
  intro p hp
  simp only [L12_7_T, List.mem_cons, List.not_mem_nil, or_false] at hp
  rcases hp with rfl | rfl | rfl
  · trivial
  · trivial
  · trivial
theorem L12_7_ok : ∀ n, LoopOK Tryd.prog hint shT L12_7_it n :=
  LoopOK.of (hk := fun β => (Known.mk [digitsR_it] [L12_18_71_it]).hk β) (sh := shT) (OneLoop.of (by kernel_rfl)) L12_7_T_ok ⟨⟨L12_7_Xexit0_ok, Nat.le_refl _, Nat.le_refl _⟩, trivial⟩ (fun m => KnownOK.hook ((KnownOK.nil.fn digitsR_ok).loop L12_18_71_ok L12_18_71_T_ok) m)
    (fun _ => by kernel_rfl) (fun m x => by kernel_rfl)
noncomputable def genR (n : Nat) (seed : Int) (m : Int) : Option ((List (Int × (List UInt8 × (List UInt8 × (List Int × Bool)))) × List Int) × Unit) :=
 Option.bind (cutR n m (200 : Int)) fun y0 =>
 bif (ilt y0.1 (1 : Int)) then
  Option.bind (L12_7 n (1 : Int) (0 : Int) (andI Go.IntKind.i64 seed (4294967295 : Int)) [] ((0 : Int) :: ([] : List Int))) fun y17 =>
  some ((y17.2.2.2.1.1, y17.2.2.2.1.2.1), ())
 else
 Option.bind (L12_7 n y0.1 (0 : Int) (andI Go.IntKind.i64 seed (4294967295 : Int)) [] ((0 : Int) :: ([] : List Int))) fun y18 =>
 some ((y18.2.2.2.1.1, y18.2.2.2.1.2.1), ())
noncomputable def genR_it : FnIt := ⟨12, [(false, (.int .i64)), (false, (.int .i64))], [(true, (.cons (.slc (.cons (.int .i64) (.cons .str (.cons .str (.cons (.slc (.int .i64)) .bool))))) (.slc (.int .i64))))], 1, fun n x => genR n x.1 x.2.1⟩
theorem genR_ok (n : Nat) : FnOK Tryd.prog hint shT genR_it n :=
  FnOK.of (hk := fun β => (Known.mk [cutR_it] [L12_7_it]).hk β) (sh := shT) (fun m _ => KnownOK.hook ((KnownOK.nil.fn cutR_ok).loop L12_7_ok L12_7_T_ok) m) (fun x => by kernel_rfl)
end Go.Proofs.YtoiiimbhfdnomaaDoor
/- Plain functions for the program's. -/
namespace Go.Proofs.YtoiiimbhfdnomaaDoor
open Go Go.Iv Go.Gv
set_option maxRecDepth 100000
set_option linter.unusedVariables false
noncomputable def L30_1_Xexit0 : Tm := ⟨[], [(65, .cells 41 [.int .i64] true), (70, .cells 39 [.int .i64, .str, .str, .all 76 3 (.int .i64) .ex, .bool] true), (71, .cells 24 [.fix (TV.ptr 65 0)] true), (73, .cells 3 [.int .i64] true), (74, .cells 3 [.int .i64] true), (75, .loop 15 Go.LoopState.ready (Option.none) (fiIn Tryd.prog hint 15) [(7, .one (.fix (TV.ptr 70 0)))] (rangeIn Tryd.prog 15 10).1 (rangeIn Tryd.prog 15 10).2.1 (rangeIn Tryd.prog 15 10).2.2)], 76, 77, 2019⟩
noncomputable def L30_1_T : Tm := ⟨[(0, .one (.fix (TV.yld 75))), (2, .one (.fix (TV.ptr 73 0))), (3, .one (.fix (TV.ptr 71 0))), (4, .one (.fix (TV.ptr 74 0))), (6, .one (.int .i64)), (7, .one (.int .i64))], [(65, .cells 41 [.int .i64] true), (70, .cells 39 [.int .i64, .str, .str, .all 76 3 (.int .i64) .ex, .bool] true), (71, .cells 24 [.fix (TV.ptr 65 0)] true), (73, .cells 3 [.int .i64] true), (74, .cells 3 [.int .i64] true), (75, .loop 15 Go.LoopState.ready (Option.none) (fiIn Tryd.prog hint 15) [(7, .one (.fix (TV.ptr 70 0)))] (rangeIn Tryd.prog 15 10).1 (rangeIn Tryd.prog 15 10).2.1 (rangeIn Tryd.prog 15 10).2.2)], 76, 77, 2019⟩
noncomputable def L30_1 : Nat → Int → Int → Int → Int → (List UInt8) → (List UInt8) → (List Int) → Bool → Int → Int → Option (Unit × ((Int × Unit) × ((Int × ((List UInt8) × ((List UInt8) × ((List Int) × (Bool × Unit))))) × ((Unit × Unit) × ((Int × Unit) × ((Int × Unit) × ((Unit × Unit) × Unit)))))))
 | 0, _, _, _, _, _, _, _, _, _, _ => none
 | n + 1, t6, t7, c65_0, c70_0, c70_1, c70_2, c70_3, c70_4, c73_0, c74_0 =>
  bif (ilt t7 t6) then
   bif (ilt (IntKind.wrap .i64 ((IntKind.wrap .i64 (c74_0 - (1 : Int))) - c73_0)) (1 : Int)) then
    bif (room (((List.length c70_3) + (List.length ((IntKind.wrap .i64 ((IntKind.wrap .i64 (c73_0 + (1 : Int))) + (0 : Int))) :: ([] : List Int)))) * 9)) then
    L30_1 n t6 (IntKind.wrap .i64 (t7 + (1 : Int))) (andI Go.IntKind.i64 (IntKind.wrap .i64 ((IntKind.wrap .i64 (c65_0 * (1664525 : Int))) + (1013904223 : Int))) (4294967295 : Int)) c70_0 c70_1 c70_2 (c70_3 ++ ((IntKind.wrap .i64 ((IntKind.wrap .i64 (c73_0 + (1 : Int))) + (0 : Int))) :: ([] : List Int))) c70_4 c73_0 c74_0
    else none
   else
   bif ((IntKind.wrap .i64 ((IntKind.wrap .i64 (c74_0 - (1 : Int))) - c73_0)) != (0 : Int)) then
   bif (room (((List.length c70_3) + (List.length ((IntKind.wrap .i64 ((IntKind.wrap .i64 (c73_0 + (1 : Int))) + (Int.tmod (shrI Go.IntKind.i64 (andI Go.IntKind.i64 (IntKind.wrap .i64 ((IntKind.wrap .i64 (c65_0 * (1664525 : Int))) + (1013904223 : Int))) (4294967295 : Int)) 8) (IntKind.wrap .i64 ((IntKind.wrap .i64 (c74_0 - (1 : Int))) - c73_0))))) :: ([] : List Int)))) * 9)) then
   L30_1 n t6 (IntKind.wrap .i64 (t7 + (1 : Int))) (andI Go.IntKind.i64 (IntKind.wrap .i64 ((IntKind.wrap .i64 (c65_0 * (1664525 : Int))) + (1013904223 : Int))) (4294967295 : Int)) c70_0 c70_1 c70_2 (c70_3 ++ ((IntKind.wrap .i64 ((IntKind.wrap .i64 (c73_0 + (1 : Int))) + (Int.tmod (shrI Go.IntKind.i64 (andI Go.IntKind.i64 (IntKind.wrap .i64 ((IntKind.wrap .i64 (c65_0 * (1664525 : Int))) + (1013904223 : Int))) (4294967295 : Int)) 8) (IntKind.wrap .i64 ((IntKind.wrap .i64 (c74_0 - (1 : Int))) - c73_0))))) :: ([] : List Int))) c70_4 c73_0 c74_0
   else none
   else none
  else
  some ((), ((c65_0, ()), ((c70_0, (c70_1, (c70_2, (c70_3, (c70_4, ()))))), (((), ()), ((c73_0, ()), ((c74_0, ()), (((), ()), ())))))))
noncomputable def L30_1_it : LoopIt := ⟨30, 1, none, L30_1_T, [(.exit 0, L30_1_Xexit0)], 1, fun n x => L30_1 n x.1.2.2.2.2.1 x.1.2.2.2.2.2.1 x.2.1.1 x.2.2.1.1 x.2.2.1.2.1 x.2.2.1.2.2.1 x.2.2.1.2.2.2.1 x.2.2.1.2.2.2.2.1 x.2.2.2.2.1.1 x.2.2.2.2.2.1.1, [64, 67, 68, 69, 72]⟩
theorem L30_1_Xexit0_ok : L30_1_Xexit0.ok Tryd.prog hint := by
  intro p hp
  simp only [L30_1_Xexit0, List.mem_cons, List.not_mem_nil, or_false] at hp
  rcases hp with rfl | rfl | rfl | rfl | rfl | rfl
  · trivial
  · trivial
  · trivial
  · trivial
  · trivial
  · exact Uniq.of (by kernel_rfl) (by kernel_rfl)
theorem L30_1_T_ok : L30_1_T.ok Tryd.prog hint := by
  intro p hp
  simp only [L30_1_T, List.mem_cons, List.not_mem_nil, or_false] at hp
  rcases hp with rfl | rfl | rfl | rfl | rfl | rfl
  · trivial
  · trivial
  · trivial
  · trivial
  · trivial
  · exact Uniq.of (by kernel_rfl) (by kernel_rfl)
theorem L30_1_ok : ∀ n, LoopOK Tryd.prog hint shT L30_1_it n :=
  LoopOK.of (hk := fun β => (Known.mk [] []).hk β) (sh := shT) (OneLoop.of (by kernel_rfl)) L30_1_T_ok ⟨⟨L30_1_Xexit0_ok, Nat.le_refl _, Nat.le_refl _⟩, trivial⟩ (fun m => KnownOK.hook KnownOK.nil m)
    (fun _ => by kernel_rfl) (fun m x => by kernel_rfl)
noncomputable def L30_1_77_Xexit0 : Tm := ⟨[], [(65, .cells 41 [.int .i64] true), (71, .cells 39 [.int .i64, .str, .str, .all 77 3 (.int .i64) .ex, .bool] true), (72, .cells 24 [.fix (TV.ptr 65 0)] true), (74, .cells 3 [.int .i64] true), (75, .cells 3 [.int .i64] true), (76, .loop 15 Go.LoopState.ready (Option.none) (fiIn Tryd.prog hint 15) [(7, .one (.fix (TV.ptr 71 0)))] (rangeIn Tryd.prog 15 10).1 (rangeIn Tryd.prog 15 10).2.1 (rangeIn Tryd.prog 15 10).2.2)], 77, 78, 2019⟩
noncomputable def L30_1_77_T : Tm := ⟨[(0, .one (.fix (TV.yld 76))), (2, .one (.fix (TV.ptr 74 0))), (3, .one (.fix (TV.ptr 72 0))), (4, .one (.fix (TV.ptr 75 0))), (6, .one (.int .i64)), (7, .one (.int .i64))], [(65, .cells 41 [.int .i64] true), (71, .cells 39 [.int .i64, .str, .str, .all 77 3 (.int .i64) .ex, .bool] true), (72, .cells 24 [.fix (TV.ptr 65 0)] true), (74, .cells 3 [.int .i64] true), (75, .cells 3 [.int .i64] true), (76, .loop 15 Go.LoopState.ready (Option.none) (fiIn Tryd.prog hint 15) [(7, .one (.fix (TV.ptr 71 0)))] (rangeIn Tryd.prog 15 10).1 (rangeIn Tryd.prog 15 10).2.1 (rangeIn Tryd.prog 15 10).2.2)], 77, 78, 2019⟩
noncomputable def L30_1_77 : Nat → Int → Int → Int → Int → (List UInt8) → (List UInt8) → (List Int) → Bool → Int → Int → Option (Unit × ((Int × Unit) × ((Int × ((List UInt8) × ((List UInt8) × ((List Int) × (Bool × Unit))))) × ((Unit × Unit) × ((Int × Unit) × ((Int × Unit) × ((Unit × Unit) × Unit)))))))
 | 0, _, _, _, _, _, _, _, _, _, _ => none
 | n + 1, t6, t7, c65_0, c71_0, c71_1, c71_2, c71_3, c71_4, c74_0, c75_0 =>
  bif (ilt t7 t6) then
   bif (ilt (IntKind.wrap .i64 ((IntKind.wrap .i64 (c75_0 - (1 : Int))) - c74_0)) (1 : Int)) then
    bif (room (((List.length c71_3) + (List.length ((IntKind.wrap .i64 ((IntKind.wrap .i64 (c74_0 + (1 : Int))) + (0 : Int))) :: ([] : List Int)))) * 9)) then
    L30_1_77 n t6 (IntKind.wrap .i64 (t7 + (1 : Int))) (andI Go.IntKind.i64 (IntKind.wrap .i64 ((IntKind.wrap .i64 (c65_0 * (1664525 : Int))) + (1013904223 : Int))) (4294967295 : Int)) c71_0 c71_1 c71_2 (c71_3 ++ ((IntKind.wrap .i64 ((IntKind.wrap .i64 (c74_0 + (1 : Int))) + (0 : Int))) :: ([] : List Int))) c71_4 c74_0 c75_0
    else none
   else
   bif ((IntKind.wrap .i64 ((IntKind.wrap .i64 (c75_0 - (1 : Int))) - c74_0)) != (0 : Int)) then
   bif (room (((List.length c71_3) + (List.length ((IntKind.wrap .i64 ((IntKind.wrap .i64 (c74_0 + (1 : Int))) + (Int.tmod (shrI Go.IntKind.i64 (andI Go.IntKind.i64 (IntKind.wrap .i64 ((IntKind.wrap .i64 (c65_0 * (1664525 : Int))) + (1013904223 : Int))) (4294967295 : Int)) 8) (IntKind.wrap .i64 ((IntKind.wrap .i64 (c75_0 - (1 : Int))) - c74_0))))) :: ([] : List Int)))) * 9)) then
   L30_1_77 n t6 (IntKind.wrap .i64 (t7 + (1 : Int))) (andI Go.IntKind.i64 (IntKind.wrap .i64 ((IntKind.wrap .i64 (c65_0 * (1664525 : Int))) + (1013904223 : Int))) (4294967295 : Int)) c71_0 c71_1 c71_2 (c71_3 ++ ((IntKind.wrap .i64 ((IntKind.wrap .i64 (c74_0 + (1 : Int))) + (Int.tmod (shrI Go.IntKind.i64 (andI Go.IntKind.i64 (IntKind.wrap .i64 ((IntKind.wrap .i64 (c65_0 * (1664525 : Int))) + (1013904223 : Int))) (4294967295 : Int)) 8) (IntKind.wrap .i64 ((IntKind.wrap .i64 (c75_0 - (1 : Int))) - c74_0))))) :: ([] : List Int))) c71_4 c74_0 c75_0
   else none
   else none
  else
  some ((), ((c65_0, ()), ((c71_0, (c71_1, (c71_2, (c71_3, (c71_4, ()))))), (((), ()), ((c74_0, ()), ((c75_0, ()), (((), ()), ())))))))
noncomputable def L30_1_77_it : LoopIt := ⟨30, 1, none, L30_1_77_T, [(.exit 0, L30_1_77_Xexit0)], 1, fun n x => L30_1_77 n x.1.2.2.2.2.1 x.1.2.2.2.2.2.1 x.2.1.1 x.2.2.1.1 x.2.2.1.2.1 x.2.2.1.2.2.1 x.2.2.1.2.2.2.1 x.2.2.1.2.2.2.2.1 x.2.2.2.2.1.1 x.2.2.2.2.2.1.1, [64, 67, 68, 69, 70, 73]⟩
theorem L30_1_77_Xexit0_ok : L30_1_77_Xexit0.ok Tryd.prog hint := by
  intro p hp
  simp only [L30_1_77_Xexit0, List.mem_cons, List.not_mem_nil, or_false] at hp
  rcases hp with rfl | rfl | rfl | rfl | rfl | rfl
  · trivial
  · trivial
  · trivial
  · trivial
  · trivial
  · exact Uniq.of (by kernel_rfl) (by kernel_rfl)
theorem L30_1_77_T_ok : L30_1_77_T.ok Tryd.prog hint := by
  intro p hp
  simp only [L30_1_77_T, List.mem_cons, List.not_mem_nil, or_false] at hp
  rcases hp with rfl | rfl | rfl | rfl | rfl | rfl
  · trivial
  · trivial
  · trivial
  · trivial
  · trivial
  · exact Uniq.of (by kernel_rfl) (by kernel_rfl)
theorem L30_1_77_ok : ∀ n, LoopOK Tryd.prog hint shT L30_1_77_it n :=
  LoopOK.of (hk := fun β => (Known.mk [] []).hk β) (sh := shT) (OneLoop.of (by kernel_rfl)) L30_1_77_T_ok ⟨⟨L30_1_77_Xexit0_ok, Nat.le_refl _, Nat.le_refl _⟩, trivial⟩ (fun m => KnownOK.hook KnownOK.nil m)
    (fun _ => by kernel_rfl) (fun m x => by kernel_rfl)
noncomputable def L10_5_Xexit0 : Tm := ⟨[(4, .one (.fix (TV.ptr 64 0))), (6, .one (.fix (TV.ptr 67 0)))], [(64, .cells 32 [.fix (TV.raw (Go.Value.slice (Option.none) 0 0)), .fix (TV.raw (Go.Value.slice (Option.none) 0 0))] true), (65, .cells 41 [.int .i64] true), (67, .cells 32 [.all 68 39 (.cons (.int .i64) (.cons .str (.cons .str (.cons (.slc (.int .i64)) .bool)))) .ex, .all 69 3 (.int .i64) .no] true)], 68, 70, 1005⟩
noncomputable def L10_5_T : Tm := ⟨[(1, .one (.int .i64)), (4, .one (.fix (TV.ptr 64 0))), (5, .one (.fix (TV.ptr 65 0))), (6, .one (.fix (TV.ptr 67 0))), (15, .one (.int .i64)), (16, .one (.int .i64))], [(64, .cells 32 [.fix (TV.raw (Go.Value.slice (Option.none) 0 0)), .fix (TV.raw (Go.Value.slice (Option.none) 0 0))] true), (65, .cells 41 [.int .i64] true), (67, .cells 32 [.all 68 39 (.cons (.int .i64) (.cons .str (.cons .str (.cons (.slc (.int .i64)) .bool)))) .ex, .all 69 3 (.int .i64) .no] true)], 68, 70, 1005⟩
noncomputable def L10_5 : Nat → Int → Int → Int → Int → (List (Int × (List UInt8 × (List UInt8 × (List Int × Bool))))) → (List Int) → Option ((Unit × (Unit × Unit)) × ((Unit × (Unit × Unit)) × ((Int × Unit) × (((List (Int × (List UInt8 × (List UInt8 × (List Int × Bool))))) × ((List Int) × Unit)) × Unit))))
 | 0, _, _, _, _, _, _ => none
 | n + 1, t1, t15, t16, c65_0, c67_0, c67_1 =>
  bif (ilt t16 t15) then
   bif (t16 == (IntKind.wrap .i64 (t1 - (1 : Int)))) then
    Option.bind (dflt (n + 2) (1 : Int)) fun y18 =>
    bif (in64 t16) then
    bif (room ((List.length ([(115 : UInt8)] : List UInt8)) + (List.length (Go.Lib.itoa t16)))) then
    bif (room (((List.length c67_0) + (List.length (((1 : Int), (y18.1, ((([(115 : UInt8)] : List UInt8) ++ (Go.Lib.itoa t16)), (([] : List Int), true)))) :: []))) * 73)) then
    L10_5 n t1 t15 (IntKind.wrap .i64 (t16 + (1 : Int))) c65_0 (c67_0 ++ (((1 : Int), (y18.1, ((([(115 : UInt8)] : List UInt8) ++ (Go.Lib.itoa t16)), (([] : List Int), true)))) :: [])) c67_1
    else none
    else none
    else none
   else
   bif ((Int.tmod (shrI Go.IntKind.i64 (andI Go.IntKind.i64 (IntKind.wrap .i64 ((IntKind.wrap .i64 (c65_0 * (1664525 : Int))) + (1013904223 : Int))) (4294967295 : Int)) 8) (3 : Int)) == (0 : Int)) then
    Option.bind (dflt (n + 2) (1 : Int)) fun y19 =>
    bif (in64 t16) then
    bif (room ((List.length ([(115 : UInt8)] : List UInt8)) + (List.length (Go.Lib.itoa t16)))) then
    bif (room (((List.length c67_0) + (List.length (((1 : Int), (y19.1, ((([(115 : UInt8)] : List UInt8) ++ (Go.Lib.itoa t16)), (([] : List Int), true)))) :: []))) * 73)) then
    L10_5 n t1 t15 (IntKind.wrap .i64 (t16 + (1 : Int))) (andI Go.IntKind.i64 (IntKind.wrap .i64 ((IntKind.wrap .i64 (c65_0 * (1664525 : Int))) + (1013904223 : Int))) (4294967295 : Int)) (c67_0 ++ (((1 : Int), (y19.1, ((([(115 : UInt8)] : List UInt8) ++ (Go.Lib.itoa t16)), (([] : List Int), true)))) :: [])) c67_1
    else none
    else none
    else none
   else
   bif ((Int.tmod (shrI Go.IntKind.i64 (andI Go.IntKind.i64 (IntKind.wrap .i64 ((IntKind.wrap .i64 ((andI Go.IntKind.i64 (IntKind.wrap .i64 ((IntKind.wrap .i64 (c65_0 * (1664525 : Int))) + (1013904223 : Int))) (4294967295 : Int)) * (1664525 : Int))) + (1013904223 : Int))) (4294967295 : Int)) 8) (2 : Int)) == (1 : Int)) then
    Option.bind (dflt (n + 2) (3 : Int)) fun y20 =>
    Option.bind (L30_1_77 (n + 1) (IntKind.wrap .i64 ((Int.tmod (shrI Go.IntKind.i64 (andI Go.IntKind.i64 (IntKind.wrap .i64 ((IntKind.wrap .i64 ((andI Go.IntKind.i64 (IntKind.wrap .i64 ((IntKind.wrap .i64 ((andI Go.IntKind.i64 (IntKind.wrap .i64 ((IntKind.wrap .i64 (c65_0 * (1664525 : Int))) + (1013904223 : Int))) (4294967295 : Int)) * (1664525 : Int))) + (1013904223 : Int))) (4294967295 : Int)) * (1664525 : Int))) + (1013904223 : Int))) (4294967295 : Int)) 8) (3 : Int)) * (2 : Int))) (0 : Int) (andI Go.IntKind.i64 (IntKind.wrap .i64 ((IntKind.wrap .i64 ((andI Go.IntKind.i64 (IntKind.wrap .i64 ((IntKind.wrap .i64 ((andI Go.IntKind.i64 (IntKind.wrap .i64 ((IntKind.wrap .i64 (c65_0 * (1664525 : Int))) + (1013904223 : Int))) (4294967295 : Int)) * (1664525 : Int))) + (1013904223 : Int))) (4294967295 : Int)) * (1664525 : Int))) + (1013904223 : Int))) (4294967295 : Int)) (3 : Int) y20.1 ([] : List UInt8) ([] : List Int) false t16 t1) fun y21 =>
    bif (room (((List.length c67_0) + (List.length ((y21.2.2.1.1, (y21.2.2.1.2.1, (y21.2.2.1.2.2.1, (y21.2.2.1.2.2.2.1, y21.2.2.1.2.2.2.2.1)))) :: []))) * 73)) then
    L10_5 n t1 t15 (IntKind.wrap .i64 (t16 + (1 : Int))) y21.2.1.1 (c67_0 ++ ((y21.2.2.1.1, (y21.2.2.1.2.1, (y21.2.2.1.2.2.1, (y21.2.2.1.2.2.2.1, y21.2.2.1.2.2.2.2.1)))) :: [])) c67_1
    else none
   else
   Option.bind (dflt (n + 2) (2 : Int)) fun y22 =>
   Option.bind (L30_1_77 (n + 1) (IntKind.wrap .i64 ((Int.tmod (shrI Go.IntKind.i64 (andI Go.IntKind.i64 (IntKind.wrap .i64 ((IntKind.wrap .i64 ((andI Go.IntKind.i64 (IntKind.wrap .i64 ((IntKind.wrap .i64 ((andI Go.IntKind.i64 (IntKind.wrap .i64 ((IntKind.wrap .i64 (c65_0 * (1664525 : Int))) + (1013904223 : Int))) (4294967295 : Int)) * (1664525 : Int))) + (1013904223 : Int))) (4294967295 : Int)) * (1664525 : Int))) + (1013904223 : Int))) (4294967295 : Int)) 8) (3 : Int)) * (1 : Int))) (0 : Int) (andI Go.IntKind.i64 (IntKind.wrap .i64 ((IntKind.wrap .i64 ((andI Go.IntKind.i64 (IntKind.wrap .i64 ((IntKind.wrap .i64 ((andI Go.IntKind.i64 (IntKind.wrap .i64 ((IntKind.wrap .i64 (c65_0 * (1664525 : Int))) + (1013904223 : Int))) (4294967295 : Int)) * (1664525 : Int))) + (1013904223 : Int))) (4294967295 : Int)) * (1664525 : Int))) + (1013904223 : Int))) (4294967295 : Int)) (2 : Int) y22.1 ([] : List UInt8) ([] : List Int) false t16 t1) fun y23 =>
   bif (room (((List.length c67_0) + (List.length ((y23.2.2.1.1, (y23.2.2.1.2.1, (y23.2.2.1.2.2.1, (y23.2.2.1.2.2.2.1, y23.2.2.1.2.2.2.2.1)))) :: []))) * 73)) then
   L10_5 n t1 t15 (IntKind.wrap .i64 (t16 + (1 : Int))) y23.2.1.1 (c67_0 ++ ((y23.2.2.1.1, (y23.2.2.1.2.1, (y23.2.2.1.2.2.1, (y23.2.2.1.2.2.2.1, y23.2.2.1.2.2.2.2.1)))) :: [])) c67_1
   else none
  else
  some (((), ((), ())), (((), ((), ())), ((c65_0, ()), ((c67_0, (c67_1, ())), ()))))
noncomputable def L10_5_it : LoopIt := ⟨10, 5, none, L10_5_T, [(.exit 0, L10_5_Xexit0)], 3, fun n x => L10_5 n x.1.1 x.1.2.2.2.2.1 x.1.2.2.2.2.2.1 x.2.2.1.1 x.2.2.2.1.1 x.2.2.2.1.2.1, []⟩
theorem L10_5_Xexit0_ok : L10_5_Xexit0.ok Tryd.prog hint := by
  intro p hp
  simp only [L10_5_Xexit0, List.mem_cons, List.not_mem_nil, or_false] at hp
  rcases hp with rfl | rfl | rfl
  · trivial
  · trivial
  · trivial
theorem L10_5_T_ok : L10_5_T.ok Tryd.prog hint := by
  intro p hp
  simp only [L10_5_T, List.mem_cons, List.not_mem_nil, or_false] at hp
  rcases hp with rfl | rfl | rfl
  · trivial
  · trivial
  · trivial
theorem L10_5_ok : ∀ n, LoopOK Tryd.prog hint shT L10_5_it n :=
  LoopOK.of (hk := fun β => (Known.mk [dflt_it] [L30_1_77_it]).hk β) (sh := shT) (OneLoop.of (by kernel_rfl)) L10_5_T_ok ⟨⟨L10_5_Xexit0_ok, Nat.le_refl _, Nat.le_refl _⟩, trivial⟩ (fun m => KnownOK.hook ((KnownOK.nil.fn dflt_ok).loop L30_1_77_ok L30_1_77_T_ok) m)
    (fun _ => by kernel_rfl) (fun m x => by kernel_rfl)
noncomputable def gen (n : Nat) (seed : Int) (m : Int) : Option ((List (Int × (List UInt8 × (List UInt8 × (List Int × Bool)))) × List Int) × Unit) :=
 Option.bind (L10_5 n (bif (ilt (200 : Int) (bif (ilt (1 : Int) m) then m else (1 : Int))) then (200 : Int) else (bif (ilt (1 : Int) m) then m else (1 : Int))) (bif (ilt (200 : Int) (bif (ilt (1 : Int) m) then m else (1 : Int))) then (200 : Int) else (bif (ilt (1 : Int) m) then m else (1 : Int))) (0 : Int) (andI Go.IntKind.i64 seed (4294967295 : Int)) [] ((0 : Int) :: ([] : List Int))) fun y24 =>
 some ((y24.2.2.2.1.1, y24.2.2.2.1.2.1), ())
noncomputable def gen_it : FnIt := ⟨10, [(false, (.int .i64)), (false, (.int .i64))], [(true, (.cons (.slc (.cons (.int .i64) (.cons .str (.cons .str (.cons (.slc (.int .i64)) .bool))))) (.slc (.int .i64))))], 3, fun n x => gen n x.1 x.2.1⟩
theorem gen_ok (n : Nat) : FnOK Tryd.prog hint shT gen_it n :=
  FnOK.of (hk := fun β => (Known.mk [] [L10_5_it]).hk β) (sh := shT) (fun m _ => KnownOK.hook (KnownOK.nil.loop L10_5_ok L10_5_T_ok) m) (fun x => by kernel_rfl)
end Go.Proofs.YtoiiimbhfdnomaaDoor
/- The graphs that are drawn: what both sides compute. -/
namespace Go.Proofs.YtoiiimbhfdnomaaDoor
open Go Go.Iv Go.Gv
def nxt (s : Int) : Int := andI Go.IntKind.i64 (IntKind.wrap .i64 ((IntKind.wrap .i64 (s * (1664525 : Int))) + (1013904223 : Int))) (4294967295 : Int)
def drw (s k : Int) : Int := Int.tmod (shrI Go.IntKind.i64 s 8) k
theorem nxt_eq (s : Int) : andI Go.IntKind.i64 (IntKind.wrap .i64 ((IntKind.wrap .i64 (s * (1664525 : Int))) + (1013904223 : Int))) (4294967295 : Int) = nxt s := rfl
theorem drw_eq (s k : Int) : Int.tmod (shrI Go.IntKind.i64 s 8) k = drw s k := rfl
theorem andI_mask (x : Int) : 0 ≤ andI Go.IntKind.i64 x 4294967295 ∧ andI Go.IntKind.i64 x 4294967295 ≤ 4294967295 := by
  have h : (BitVec.ofInt 64 x &&& BitVec.ofInt 64 4294967295).toNat ≤ 4294967295 := by
    rw [BitVec.toNat_and]
    have : (BitVec.ofInt 64 4294967295).toNat = 4294967295 := by decide
    rw [this]
    exact Nat.and_le_right
  have e : andI Go.IntKind.i64 x 4294967295 = (((BitVec.ofInt 64 x &&& BitVec.ofInt 64 4294967295).toNat : Nat) : Int) := by
    have h2 : IntKind.wrap .i64 (((BitVec.ofInt 64 x &&& BitVec.ofInt 64 4294967295).toNat : Nat) : Int) = (((BitVec.ofInt 64 x &&& BitVec.ofInt 64 4294967295).toNat : Nat) : Int) := wrap_id (by omega) (by omega)
    exact h2
  omega
theorem drw_bounds {s k : Int} (h0 : 0 ≤ s) (hk : 0 < k) : 0 ≤ drw s k ∧ drw s k < k := by
  unfold drw
  have h : 0 ≤ shrI Go.IntKind.i64 s 8 := by
    rw [shrI_i64 s 8 (by omega)]
    exact Int.ediv_nonneg h0 (by decide)
  exact ⟨Int.tmod_nonneg _ h, Int.tmod_lt_of_pos _ hk⟩
def kidsM (i m : Int) : Nat → Int → List Int → Int × List Int
  | 0, s, l => (s, l)
  | k + 1, s, l => kidsM i m k (nxt s) (l ++ [i + 1 + drw (nxt s) (m - 1 - i)])
theorem kidsM_len (i m : Int) : ∀ (k : Nat) (s : Int) (l : List Int), (kidsM i m k s l).2.length = l.length + k := by
  intro k
  induction k with
  | zero => intro s l; rfl
  | succ k ih => intro s l; simp only [kidsM]; rw [ih]; simp; omega
theorem kidsM_all (i m : Int) (hm : i + 1 < m) : ∀ (k : Nat) (s : Int) (l : List Int), (∀ x ∈ l, i < x ∧ x < m) → ∀ x ∈ (kidsM i m k s l).2, i < x ∧ x < m := by
  intro k
  induction k with
  | zero => intro s l h; exact h
  | succ k ih =>
    intro s l h
    simp only [kidsM]
    refine ih _ _ fun x hx => ?_
    rcases List.mem_append.1 hx with hx | hx
    · exact h x hx
    · rw [List.mem_singleton.1 hx]
      have := drw_bounds (s := nxt s) (k := m - 1 - i) (andI_mask _).1 (by omega)
      omega
theorem L30_spec (i m : Int) (h0 : 0 ≤ i) (hm : i + 1 < m) (hm2 : m ≤ 200) (c0 : Int) (c1 c2 : List UInt8) (c4 : Bool) : ∀ (k n : Nat) (t6 t7 s : Int) (l : List Int), 0 ≤ t7 → t7 + k = t6 → t6 ≤ 10 → l.length + k ≤ 10 → k < n →
    L30_1_77 n t6 t7 s c0 c1 c2 l c4 i m = some ((), (((kidsM i m k s l).1, ()), ((c0, (c1, (c2, ((kidsM i m k s l).2, (c4, ()))))), (((), ()), ((i, ()), ((m, ()), (((), ()), ()))))))) := by
  intro k
  induction k with
  | zero =>
    intro n t6 t7 s l h1 h2 h3 h4 hn
    cases n with
    | zero => omega
    | succ n =>
      have e1 : ilt t7 t6 = false := by rw [ilt_eq]; exact decide_eq_false (by omega)
      simp only [L30_1_77, e1, cond_false, kidsM]
  | succ k ih =>
    intro n t6 t7 s l h1 h2 h3 h4 hn
    cases n with
    | zero => omega
    | succ n =>
      have e1 : ilt t7 t6 = true := by rw [ilt_eq]; exact decide_eq_true (by omega)
      have w1 : IntKind.wrap .i64 (m - 1) = m - 1 := wrap_id (by omega) (by omega)
      have w2 : IntKind.wrap .i64 (m - 1 - i) = m - 1 - i := wrap_id (by omega) (by omega)
      have w3 : IntKind.wrap .i64 (i + 1) = i + 1 := wrap_id (by omega) (by omega)
      have w4 : IntKind.wrap .i64 (t7 + 1) = t7 + 1 := wrap_id (by omega) (by omega)
      have hd := drw_bounds (s := nxt s) (k := m - 1 - i) (andI_mask _).1 (by omega)
      have e2 : ilt (m - 1 - i) 1 = false := by rw [ilt_eq]; exact decide_eq_false (by omega)
      have e3 : (m - 1 - i != 0) = true := by simp; omega
      have w5 : IntKind.wrap .i64 (i + 1 + drw (nxt s) (m - 1 - i)) = i + 1 + drw (nxt s) (m - 1 - i) := wrap_id (by omega) (by omega)
      simp only [L30_1_77, e1, cond_true, w1, w2, w3, w4, e2, cond_false, e3]
      simp only [nxt_eq, drw_eq, w5]
      rw [room_ok (by simp; unfold roomy; omega)]
      simp only [cond_true]
      rw [ih n t6 (t7 + 1) (nxt s) _ (by omega) (by omega) h3 (by simp; omega) (by omega)]
      rfl
end Go.Proofs.YtoiiimbhfdnomaaDoor
/- The graphs that are drawn: digits, kids of the reference. -/
namespace Go.Proofs.YtoiiimbhfdnomaaDoor
open Go Go.Iv Go.Gv
noncomputable def digOK (k i : Nat) : Bool := match digitsR (k + 5) (Int.ofNat i) with
  | some (t, _) => t == Go.Lib.itoa (Int.ofNat i)
  | none => false
theorem digits_all (k : Nat) : (List.range 200).all (digOK k) = true := by kernel_rfl
theorem digits_spec {n i : Nat} (hn : 5 ≤ n) (hi : i < 200) : digitsR n (i : Int) = some (Go.Lib.itoa (i : Int), ()) := by
  obtain ⟨k, rfl⟩ : ∃ k, n = k + 5 := ⟨n - 5, by omega⟩
  have h := List.all_eq_true.1 (digits_all k) i (List.mem_range.2 hi)
  unfold digOK at h
  show digitsR (k + 5) (Int.ofNat i) = some (Go.Lib.itoa (Int.ofNat i), ())
  cases hq : digitsR (k + 5) (Int.ofNat i) with
  | none => rw [hq] at h; cases h
  | some p => rw [hq] at h; obtain ⟨t, u⟩ := p; rw [eq_of_beq h]
theorem itoa_len {i : Nat} (hi : i < 200) : (Go.Lib.itoa (i : Int)).length ≤ 3 := by
  have h : (List.range 200).all (fun i => Nat.ble (Go.Lib.itoa (Int.ofNat i)).length 3) = true := by kernel_rfl
  exact Nat.le_of_ble_eq_true (List.all_eq_true.1 h i (List.mem_range.2 hi))
theorem L12_18_spec (i m : Int) (h0 : 0 ≤ i) (hm : i + 1 < m) (hm2 : m ≤ 200) (g : List (Int × (List UInt8 × (List UInt8 × (List Int × Bool))))) (rt : List Int) (c0 : Int) (c1 c2 : List UInt8) (c4 : Bool) : ∀ (k n : Nat) (t6 t7 s : Int) (l : List Int), 0 ≤ t7 → t7 + k = t6 → t6 ≤ 10 → l.length + k ≤ 10 → k < n →
    L12_18_71 n m i t6 t7 s g rt c0 c1 c2 l c4 = some ((m, ((), ((), ((), (i, ((), ())))))), (((), ((), ())), (((kidsM i m k s l).1, ()), ((g, (rt, ())), ((c0, (c1, (c2, ((kidsM i m k s l).2, (c4, ()))))), ()))))) := by
  intro k
  induction k with
  | zero =>
    intro n t6 t7 s l h1 h2 h3 h4 hn
    cases n with
    | zero => omega
    | succ n =>
      have e1 : ilt t7 t6 = false := by rw [ilt_eq]; exact decide_eq_false (by omega)
      simp only [L12_18_71, e1, cond_false, kidsM]
  | succ k ih =>
    intro n t6 t7 s l h1 h2 h3 h4 hn
    cases n with
    | zero => omega
    | succ n =>
      have e1 : ilt t7 t6 = true := by rw [ilt_eq]; exact decide_eq_true (by omega)
      have w1 : IntKind.wrap .i64 (m - 1) = m - 1 := wrap_id (by omega) (by omega)
      have w2 : IntKind.wrap .i64 (m - 1 - i) = m - 1 - i := wrap_id (by omega) (by omega)
      have w3 : IntKind.wrap .i64 (i + 1) = i + 1 := wrap_id (by omega) (by omega)
      have w4 : IntKind.wrap .i64 (t7 + 1) = t7 + 1 := wrap_id (by omega) (by omega)
      have hd := drw_bounds (s := nxt s) (k := m - 1 - i) (andI_mask _).1 (by omega)
      have e2 : ilt (m - 1 - i) 1 = false := by rw [ilt_eq]; exact decide_eq_false (by omega)
      have e3 : (m - 1 - i != 0) = true := by simp; omega
      have w5 : IntKind.wrap .i64 (i + 1 + drw (nxt s) (m - 1 - i)) = i + 1 + drw (nxt s) (m - 1 - i) := wrap_id (by omega) (by omega)
      simp only [L12_18_71, e1, cond_true, w1, w2, w3, w4, e2, cond_false, e3]
      simp only [nxt_eq, drw_eq, w5]
      rw [room_ok (by simp; unfold roomy; omega)]
      simp only [cond_true]
      rw [ih n t6 (t7 + 1) (nxt s) _ (by omega) (by omega) h3 (by simp; omega) (by omega)]
      rfl
abbrev Nod := Int × (List UInt8 × (List UInt8 × (List Int × Bool)))
def tagStr : List UInt8 := [116, 97, 103, 58, 121, 97, 109, 108, 46, 111, 114, 103, 44, 50, 48, 48, 50, 58, 115, 116, 114]
def tagSeq : List UInt8 := [116, 97, 103, 58, 121, 97, 109, 108, 46, 111, 114, 103, 44, 50, 48, 48, 50, 58, 115, 101, 113]
def tagMap : List UInt8 := [116, 97, 103, 58, 121, 97, 109, 108, 46, 111, 114, 103, 44, 50, 48, 48, 50, 58, 109, 97, 112]
def scal (i : Int) : Nod := (1, (tagStr, ([115] ++ Go.Lib.itoa i, ([], true))))
def coll (k : Int) (t : List UInt8) (l : List Int) : Nod := (k, (t, ([], (l, false))))
def nodeM (i m s : Int) : Int × Nod :=
  bif i == m - 1 then (s, scal i) else bif drw (nxt s) 3 == 0 then (nxt s, scal i) else
  bif drw (nxt (nxt s)) 2 == 1 then
    ((kidsM i m (drw (nxt (nxt (nxt s))) 3 * 2).toNat (nxt (nxt (nxt s))) []).1, coll 3 tagMap (kidsM i m (drw (nxt (nxt (nxt s))) 3 * 2).toNat (nxt (nxt (nxt s))) []).2)
  else
    ((kidsM i m (drw (nxt (nxt (nxt s))) 3 * 1).toNat (nxt (nxt (nxt s))) []).1, coll 2 tagSeq (kidsM i m (drw (nxt (nxt (nxt s))) 3 * 1).toNat (nxt (nxt (nxt s))) []).2)
def nodesM (m : Int) : Nat → Int → Int → List Nod → Int × List Nod
  | 0, _, s, l => (s, l)
  | k + 1, i, s, l => nodesM m k (i + 1) (nodeM i m s).1 (l ++ [(nodeM i m s).2])
end Go.Proofs.YtoiiimbhfdnomaaDoor
/- The graphs that are drawn: both sides draw one. -/
namespace Go.Proofs.YtoiiimbhfdnomaaDoor
open Go Go.Iv Go.Gv
theorem dflt1 (n : Nat) : dflt n 1 = some (tagStr, ()) := rfl
theorem dflt2 (n : Nat) : dflt n 2 = some (tagSeq, ()) := rfl
theorem dflt3 (n : Nat) : dflt n 3 = some (tagMap, ()) := rfl
theorem in64_ok {i : Int} (h0 : 0 ≤ i) (h1 : i < 200) : in64 i = true := by
  unfold in64
  rw [Go.Iv.ile_eq, Go.Iv.ile_eq]
  simp only [Bool.and_eq_true, decide_eq_true_eq]
  omega
theorem L10_spec (m : Int) (hm : 1 ≤ m) (hm2 : m ≤ 200) (rt : List Int) : ∀ (k n : Nat) (i s : Int) (l : List Nod), 0 ≤ i → i + k = m → l.length + k ≤ 200 → k + 20 < n →
    L10_5 n m m i s l rt = some (((), ((), ())), (((), ((), ())), (((nodesM m k i s l).1, ()), (((nodesM m k i s l).2, (rt, ())), ())))) := by
  intro k
  induction k with
  | zero =>
    intro n i s l h0 h1 h2 hn
    cases n with
    | zero => omega
    | succ n =>
      have e1 : ilt i m = false := ilt_f (by omega)
      simp only [L10_5, e1, cond_false, nodesM]
  | succ k ih =>
    intro n i s l h0 h1 h2 hn
    cases n with
    | zero => omega
    | succ n =>
      have e1 : ilt i m = true := ilt_t (by omega)
      have w1 : IntKind.wrap .i64 (m - 1) = m - 1 := wrap_id (by omega) (by omega)
      have w4 : IntKind.wrap .i64 (i + 1) = i + 1 := wrap_id (by omega) (by omega)
      have hi : i.toNat < 200 := by omega
      have hil : (Go.Lib.itoa i).length ≤ 3 := by
        have := itoa_len hi
        rwa [Int.toNat_of_nonneg h0] at this
      have e5 := in64_ok h0 (by omega)
      have r1 : room ((List.length ([(115 : UInt8)] : List UInt8)) + (List.length (Go.Lib.itoa i))) = true := room_ok (by simp; unfold roomy; omega)
      have r2 : ∀ x : Nod, room (((List.length l) + (List.length (x :: ([] : List Nod)))) * 73) = true := fun x => room_ok (by simp; unfold roomy; omega)
      have step : ∀ x s', nodeM i m s = (s', x) → L10_5 n m m (i + 1) s' (l ++ [x]) rt = some (((), ((), ())), (((), ((), ())), (((nodesM m (k + 1) i s l).1, ()), (((nodesM m (k + 1) i s l).2, (rt, ())), ())))) := fun x s' hx => by
        rw [ih n (i + 1) s' (l ++ [x]) (by omega) (by omega) (by simp; omega) (by omega)]
        simp only [nodesM, hx]
      simp only [L10_5, e1, cond_true, w1, w4, nxt_eq, drw_eq, dflt1, dflt2, dflt3, Option.bind_some, e5, r1]
      cases h1' : (i == m - 1) with
      | true =>
        simp only [cond_true]
        rw [r2]
        simp only [cond_true]
        exact step (scal i) s (by unfold nodeM; rw [h1']; rfl)
      | false =>
        simp only [cond_false]
        have hlast : i + 1 < m := by
          have : i ≠ m - 1 := fun e => by rw [e] at h1'; simp at h1'
          omega
        cases h2' : (drw (nxt s) 3 == 0) with
        | true =>
          simp only [cond_true]
          rw [r2]
          simp only [cond_true]
          exact step (scal i) (nxt s) (by unfold nodeM; rw [h1', h2']; rfl)
        | false =>
          simp only [cond_false]
          have hd := drw_bounds (s := nxt (nxt (nxt s))) (k := 3) (andI_mask _).1 (by decide)
          cases h3' : (drw (nxt (nxt s)) 2 == 1) with
          | true =>
            simp only [cond_true]
            have w6 : IntKind.wrap .i64 (drw (nxt (nxt (nxt s))) 3 * 2) = drw (nxt (nxt (nxt s))) 3 * 2 := wrap_id (by omega) (by omega)
            rw [w6, L30_spec i m h0 hlast hm2 3 tagMap [] false (drw (nxt (nxt (nxt s))) 3 * 2).toNat (n + 1) (drw (nxt (nxt (nxt s))) 3 * 2) 0 _ [] (Int.le_refl _) (by omega) (by omega) (by simp; omega) (by omega)]
            simp only [Option.bind_some]
            rw [r2]
            simp only [cond_true]
            exact step (coll 3 tagMap _) _ (by unfold nodeM; rw [h1', h2', h3']; rfl)
          | false =>
            simp only [cond_false]
            have w6 : IntKind.wrap .i64 (drw (nxt (nxt (nxt s))) 3 * 1) = drw (nxt (nxt (nxt s))) 3 * 1 := wrap_id (by omega) (by omega)
            rw [w6, L30_spec i m h0 hlast hm2 2 tagSeq [] false (drw (nxt (nxt (nxt s))) 3 * 1).toNat (n + 1) (drw (nxt (nxt (nxt s))) 3 * 1) 0 _ [] (Int.le_refl _) (by omega) (by omega) (by simp; omega) (by omega)]
            simp only [Option.bind_some]
            rw [r2]
            simp only [cond_true]
            exact step (coll 2 tagSeq _) _ (by unfold nodeM; rw [h1', h2', h3']; rfl)
def sizeM (m : Int) : Int := if m < 1 then 1 else if 200 < m then 200 else m
theorem sizeM_ok (m : Int) : 1 ≤ sizeM m ∧ sizeM m ≤ 200 := by unfold sizeM; split <;> (try split) <;> omega
def graphM (seed m : Int) : List Nod × List Int := ((nodesM (sizeM m) (sizeM m).toNat 0 (andI Go.IntKind.i64 seed 4294967295) []).2, [0])
theorem gen_spec (n : Nat) (hn : 230 ≤ n) (seed m : Int) : gen n seed m = some (graphM seed m, ()) := by
  have e : (bif (ilt (200 : Int) (bif (ilt (1 : Int) m) then m else (1 : Int))) then (200 : Int) else (bif (ilt (1 : Int) m) then m else (1 : Int))) = sizeM m := by
    unfold sizeM
    simp only [ilt_eq, Bool.cond_eq_ite, decide_eq_true_eq]
    split <;> split <;> split <;> (try split) <;> omega
  have h := sizeM_ok m
  unfold gen
  rw [e, L10_spec (sizeM m) h.1 h.2 [0] (sizeM m).toNat n 0 _ [] (Int.le_refl _) (by omega) (by simp; omega) (by omega)]
  rfl
end Go.Proofs.YtoiiimbhfdnomaaDoor
/- The graphs that are drawn: the reference's. -/
namespace Go.Proofs.YtoiiimbhfdnomaaDoor
open Go Go.Iv Go.Gv
theorem L12_7_spec (m : Int) (hm : 1 ≤ m) (hm2 : m ≤ 200) (rt : List Int) : ∀ (k n : Nat) (i s : Int) (l : List Nod), 0 ≤ i → i + k = m → l.length + k ≤ 200 → k + 20 < n →
    L12_7 n m i s l rt = some (((), ((), ())), (((), ((), ())), (((nodesM m k i s l).1, ()), (((nodesM m k i s l).2, (rt, ())), ())))) := by
  intro k
  induction k with
  | zero =>
    intro n i s l h0 h1 h2 hn
    cases n with
    | zero => omega
    | succ n =>
      have e1 : ilt i m = false := ilt_f (by omega)
      simp only [L12_7, e1, cond_false, nodesM]
  | succ k ih =>
    intro n i s l h0 h1 h2 hn
    cases n with
    | zero => omega
    | succ n =>
      have e1 : ilt i m = true := ilt_t (by omega)
      have w1 : IntKind.wrap .i64 (m - 1) = m - 1 := wrap_id (by omega) (by omega)
      have w4 : IntKind.wrap .i64 (i + 1) = i + 1 := wrap_id (by omega) (by omega)
      have hi : i.toNat < 200 := by omega
      have hil : (Go.Lib.itoa i).length ≤ 3 := by
        have := itoa_len hi
        rwa [Int.toNat_of_nonneg h0] at this
      have e5 : digitsR (n + 1) i = some (Go.Lib.itoa i, ()) := by
        have := digits_spec (n := n + 1) (by omega) hi
        rwa [Int.toNat_of_nonneg h0] at this
      have r1 : room ((List.length ([(115 : UInt8)] : List UInt8)) + (List.length (Go.Lib.itoa i))) = true := room_ok (by simp; unfold roomy; omega)
      have r2 : ∀ x : Nod, room (((List.length l) + (List.length (x :: ([] : List Nod)))) * 73) = true := fun x => room_ok (by simp; unfold roomy; omega)
      have step : ∀ x s', nodeM i m s = (s', x) → L12_7 n m (i + 1) s' (l ++ [x]) rt = some (((), ((), ())), (((), ((), ())), (((nodesM m (k + 1) i s l).1, ()), (((nodesM m (k + 1) i s l).2, (rt, ())), ())))) := fun x s' hx => by
        rw [ih n (i + 1) s' (l ++ [x]) (by omega) (by omega) (by simp; omega) (by omega)]
        simp only [nodesM, hx]
      simp only [L12_7, e1, cond_true, w1, w4, nxt_eq, drw_eq, e5, Option.bind_some, r1]
      cases h1' : (i == m - 1) with
      | true =>
        simp only [cond_true]
        rw [r2]
        simp only [cond_true]
        exact step (scal i) s (by unfold nodeM; rw [h1']; rfl)
      | false =>
        simp only [cond_false]
        have hlast : i + 1 < m := by
          have : i ≠ m - 1 := fun e => by rw [e] at h1'; simp at h1'
          omega
        cases h2' : (drw (nxt s) 3 == 0) with
        | true =>
          simp only [cond_true]
          rw [r2]
          simp only [cond_true]
          exact step (scal i) (nxt s) (by unfold nodeM; rw [h1', h2']; rfl)
        | false =>
          simp only [cond_false]
          have hd := drw_bounds (s := nxt (nxt (nxt s))) (k := 3) (andI_mask _).1 (by decide)
          cases h3' : (drw (nxt (nxt s)) 2 == 1) with
          | true =>
            simp only [cond_true]
            have w6 : IntKind.wrap .i64 (drw (nxt (nxt (nxt s))) 3 * 2) = drw (nxt (nxt (nxt s))) 3 * 2 := wrap_id (by omega) (by omega)
            rw [w6, show ([116, 97, 103, 58, 121, 97, 109, 108, 46, 111, 114, 103, 44, 50, 48, 48, 50, 58, 109, 97, 112] : List UInt8) = tagMap from rfl, L12_18_spec i m h0 hlast hm2 l rt 3 tagMap [] false (drw (nxt (nxt (nxt s))) 3 * 2).toNat (n + 1) (drw (nxt (nxt (nxt s))) 3 * 2) 0 _ [] (Int.le_refl _) (by omega) (by omega) (by simp; omega) (by omega)]
            simp only [Option.bind_some, w4]
            rw [r2]
            simp only [cond_true]
            exact step (coll 3 tagMap _) _ (by unfold nodeM; rw [h1', h2', h3']; rfl)
          | false =>
            simp only [cond_false]
            have w6 : IntKind.wrap .i64 (drw (nxt (nxt (nxt s))) 3 * 1) = drw (nxt (nxt (nxt s))) 3 * 1 := wrap_id (by omega) (by omega)
            rw [w6, show ([116, 97, 103, 58, 121, 97, 109, 108, 46, 111, 114, 103, 44, 50, 48, 48, 50, 58, 115, 101, 113] : List UInt8) = tagSeq from rfl, L12_18_spec i m h0 hlast hm2 l rt 2 tagSeq [] false (drw (nxt (nxt (nxt s))) 3 * 1).toNat (n + 1) (drw (nxt (nxt (nxt s))) 3 * 1) 0 _ [] (Int.le_refl _) (by omega) (by omega) (by simp; omega) (by omega)]
            simp only [Option.bind_some, w4]
            rw [r2]
            simp only [cond_true]
            exact step (coll 2 tagSeq _) _ (by unfold nodeM; rw [h1', h2', h3']; rfl)
theorem genR_spec (n : Nat) (hn : 230 ≤ n) (seed m : Int) : genR n seed m = some (graphM seed m, ()) := by
  have h := sizeM_ok m
  have key := L12_7_spec (sizeM m) h.1 h.2 [0] (sizeM m).toNat n 0 (andI Go.IntKind.i64 seed 4294967295) [] (Int.le_refl _) (by omega) (by simp; omega) (by omega)
  unfold genR cutR
  by_cases h1 : m < 0
  · have e : sizeM m = 1 := by unfold sizeM; rw [if_pos (by omega)]
    rw [e] at key
    rw [ilt_t h1]
    simp only [cond_true, Option.bind_some]
    rw [show ilt (0 : Int) 1 = true from rfl]
    simp only [cond_true]
    rw [key]
    unfold graphM; rw [e]; rfl
  · rw [ilt_f (by omega)]
    simp only [cond_false]
    by_cases h2 : 200 < m
    · have e : sizeM m = 200 := by unfold sizeM; rw [if_neg (by omega), if_pos h2]
      rw [e] at key
      rw [ilt_t h2]
      simp only [cond_true, Option.bind_some]
      rw [show ilt (200 : Int) 1 = false from rfl]
      simp only [cond_false]
      rw [key]
      unfold graphM; rw [e]; rfl
    · rw [ilt_f (by omega)]
      simp only [cond_false, Option.bind_some]
      by_cases h3 : m < 1
      · have e : sizeM m = 1 := by unfold sizeM; rw [if_pos h3]
        rw [e] at key
        rw [ilt_t h3]
        simp only [cond_true]
        rw [key]
        unfold graphM; rw [e]; rfl
      · have e : sizeM m = m := by unfold sizeM; rw [if_neg h3, if_neg h2]
        rw [e] at key
        rw [ilt_f (by omega)]
        simp only [cond_false]
        rw [key]
        unfold graphM; rw [e]; rfl
end Go.Proofs.YtoiiimbhfdnomaaDoor
/- A graph is one with itself. -/
namespace Go.Proofs.YtoiiimbhfdnomaaDoor
open Go Go.Iv Go.Gv
theorem L25_refl (l : List Int) (hl : l.length ≤ 1000) : ∀ (k n : Nat) (t : Int), 0 ≤ t → t + k = l.length → k < n → L25_4 n l l t = some (.inl ((), ())) := by
  intro k
  induction k with
  | zero =>
    intro n t h0 h1 hn
    cases n with
    | zero => omega
    | succ n =>
      have e1 : ilt t (len l) = false := ilt_f (by unfold len; omega)
      simp only [L25_4, e1, cond_false]
  | succ k ih =>
    intro n t h0 h1 hn
    cases n with
    | zero => omega
    | succ n =>
      have e1 : ilt t (len l) = true := ilt_t (by unfold len; omega)
      have e2 : ile 0 t = true := ile_t h0
      have hlt : t.toNat < l.length := by omega
      have e3 : l[t.toNat]? = some l[t.toNat] := List.getElem?_eq_getElem hlt
      have w : IntKind.wrap .i64 (t + 1) = t + 1 := wrap_id (by omega) (by omega)
      simp only [L25_4, e1, e2, e3, cond_true, Option.bind_some, bne_self_eq_false, cond_false, w]
      exact ih n (t + 1) (by omega) (by omega) (by omega)
theorem sameInts_refl (n : Nat) (l : List Int) (hl : l.length ≤ 1000) (hn : l.length < n) : sameInts n l l = some (true, ()) := by
  unfold sameInts sameIntsR
  simp only [bne_self_eq_false, cond_false]
  rw [L25_refl l hl l.length (n + 1) 0 (Int.le_refl _) (by omega) (by omega)]
  rfl
theorem L11_refl (g : List Nod) (rt : List Int) (hg : g.length ≤ 1000) (hk : ∀ x ∈ g, x.2.2.2.1.length ≤ 10) : ∀ (k n : Nat) (t : Int), 0 ≤ t → t + k = g.length → k + 20 < n → L11_4 n t g rt g rt = some (.inl ((), ((g, (rt, ())), ((g, (rt, ())), ())))) := by
  intro k
  induction k with
  | zero =>
    intro n t h0 h1 hn
    cases n with
    | zero => omega
    | succ n =>
      have e1 : ilt t (len g) = false := ilt_f (by unfold len; omega)
      simp only [L11_4, e1, cond_false]
  | succ k ih =>
    intro n t h0 h1 hn
    cases n with
    | zero => omega
    | succ n =>
      have e1 : ilt t (len g) = true := ilt_t (by unfold len; omega)
      have e2 : ile 0 t = true := ile_t h0
      have hlt : t.toNat < g.length := by omega
      have e3 : g[t.toNat]? = some g[t.toNat] := List.getElem?_eq_getElem hlt
      have w : IntKind.wrap .i64 (t + 1) = t + 1 := wrap_id (by omega) (by omega)
      have hx := hk _ (List.getElem_mem hlt)
      have e4 := sameInts_refl (n + 1) g[t.toNat].2.2.2.1 (by omega) (by omega)
      simp only [L11_4, e1, e2, e3, cond_true, Option.bind_some, bne_self_eq_false, beq_self_eq_true, Bool.not_true, cond_false, w, e4]
      exact ih n (t + 1) (by omega) (by omega) (by omega)
theorem sameGraph_refl (n : Nat) (g : List Nod) (rt : List Int) (hg : g.length ≤ 1000) (hr : rt.length ≤ 10) (hk : ∀ x ∈ g, x.2.2.2.1.length ≤ 10) (hn : g.length + 30 < n) : sameGraph n (g, rt) (g, rt) = some (true, ()) := by
  unfold sameGraph
  simp only [bne_self_eq_false, cond_false]
  rw [sameInts_refl n rt (by omega) (by omega)]
  simp only [Option.bind_some, Bool.not_true, cond_false]
  rw [L11_refl g rt hg hk g.length n 0 (Int.le_refl _) (by omega) (by omega)]
  rfl
def okNode (m i : Int) (x : Nod) : Prop := x = scal i ∨ ∃ l, (x = coll 2 tagSeq l ∨ (x = coll 3 tagMap l ∧ l.length % 2 = 0)) ∧ l.length ≤ 4 ∧ ∀ k ∈ l, i < k ∧ k < m
theorem nodeM_ok (m i s : Int) (h0 : 0 ≤ i) (hm : i < m) : okNode m i (nodeM i m s).2 := by
  unfold nodeM
  cases h1 : (i == m - 1) with
  | true => exact .inl rfl
  | false =>
    have hl : i + 1 < m := by
      have : i ≠ m - 1 := fun e => by rw [e] at h1; simp at h1
      omega
    simp only [cond_false]
    cases drw (nxt s) 3 == 0 with
    | true => exact .inl rfl
    | false =>
      simp only [cond_false]
      have hd := drw_bounds (s := nxt (nxt (nxt s))) (k := 3) (andI_mask _).1 (by decide)
      cases drw (nxt (nxt s)) 2 == 1 with
      | true =>
        refine .inr ⟨_, .inr ⟨rfl, ?_⟩, ?_, kidsM_all i m hl _ _ _ (fun x h => by cases h)⟩
        · rw [kidsM_len]; simp; omega
        · rw [kidsM_len]; simp; omega
      | false =>
        refine .inr ⟨_, .inl rfl, ?_, kidsM_all i m hl _ _ _ (fun x h => by cases h)⟩
        rw [kidsM_len]; simp; omega
theorem nodesM_ok (m : Int) : ∀ (k : Nat) (i s : Int) (l : List Nod), 0 ≤ i → i + k = m → l.length = i → (∀ (j : Nat) x, l[j]? = some x → okNode m j x) →
    ((nodesM m k i s l).2.length : Int) = m ∧ ∀ (j : Nat) x, (nodesM m k i s l).2[j]? = some x → okNode m j x := by
  intro k
  induction k with
  | zero => intro i s l h0 h1 h2 h3; exact ⟨by show (l.length : Int) = m; omega, h3⟩
  | succ k ih =>
    intro i s l h0 h1 h2 h3
    simp only [nodesM]
    refine ih (i + 1) _ _ (by omega) (by omega) (by simp; omega) fun j x hj => ?_
    rw [List.getElem?_append] at hj
    split at hj
    · exact h3 j x hj
    · rename_i hlt
      have hj0 : j = l.length := by
        have := (List.getElem?_eq_some_iff.1 hj).1
        simp at this; omega
      subst hj0
      simp at hj
      rw [← hj, h2]
      exact nodeM_ok m i s h0 (by omega)
theorem graphM_ok (seed m : Int) : ((graphM seed m).1.length : Int) = sizeM m ∧ ∀ (j : Nat) x, (graphM seed m).1[j]? = some x → okNode (sizeM m) j x := by
  have h := sizeM_ok m
  exact nodesM_ok (sizeM m) (sizeM m).toNat 0 _ [] (Int.le_refl _) (by omega) rfl (fun j x hj => by cases hj)
end Go.Proofs.YtoiiimbhfdnomaaDoor
/- The graphs that are drawn are right. -/
namespace Go.Proofs.YtoiiimbhfdnomaaDoor
open Go Go.Iv Go.Gv
theorem valid_str (k : Nat) : validR (k + 60) tagStr = some (true, ()) := by kernel_rfl
theorem valid_seq (k : Nat) : validR (k + 60) tagSeq = some (true, ()) := by kernel_rfl
theorem valid_map (k : Nat) : validR (k + 60) tagMap = some (true, ()) := by kernel_rfl
noncomputable def txtOK (k i : Nat) : Bool := match textOkR (k + 60) ([115] ++ Go.Lib.itoa (Int.ofNat i)) with
  | some (t, _) => t
  | none => false
theorem txt_all (k : Nat) : (List.range 200).all (txtOK k) = true := by kernel_rfl
theorem txt_spec {n : Nat} {i : Int} (hn : 60 ≤ n) (h0 : 0 ≤ i) (hi : i < 200) : textOkR n ([115] ++ Go.Lib.itoa i) = some (true, ()) := by
  obtain ⟨k, rfl⟩ : ∃ k, n = k + 60 := ⟨n - 60, by omega⟩
  have h := List.all_eq_true.1 (txt_all k) i.toNat (List.mem_range.2 (by omega))
  unfold txtOK at h
  rw [show Int.ofNat i.toNat = i from Int.toNat_of_nonneg h0] at h
  cases hq : textOkR (k + 60) ([115] ++ Go.Lib.itoa i) with
  | none => rw [hq] at h; cases h
  | some p => rw [hq] at h; obtain ⟨t, u⟩ := p; simp only at h; rw [h]
theorem L19_spec (m c0 : Int) (c1 c2 : List UInt8) (c4 : Bool) (l : List Int) (hl : l.length ≤ 10) (hk : ∀ x ∈ l, 0 ≤ x ∧ x < m) : ∀ (k n : Nat) (t : Int), 0 ≤ t → t + k = l.length → k < n → L19_4 n m t c0 c1 c2 l c4 = some (.inl (((), ()), ((c0, (c1, (c2, (l, (c4, ()))))), ()))) := by
  intro k
  induction k with
  | zero =>
    intro n t h0 h1 hn
    cases n with
    | zero => omega
    | succ n =>
      have e1 : ilt t (len l) = false := ilt_f (by unfold len; omega)
      simp only [L19_4, e1, cond_false]
  | succ k ih =>
    intro n t h0 h1 hn
    cases n with
    | zero => omega
    | succ n =>
      have e1 : ilt t (len l) = true := ilt_t (by unfold len; omega)
      have e2 : ile 0 t = true := ile_t h0
      have hlt : t.toNat < l.length := by omega
      have e3 : l[t.toNat]? = some l[t.toNat] := List.getElem?_eq_getElem hlt
      have w : IntKind.wrap .i64 (t + 1) = t + 1 := wrap_id (by omega) (by omega)
      have hx := hk _ (List.getElem_mem hlt)
      have e4 : ilt l[t.toNat] 0 = false := ilt_f (by omega)
      have e5 : ile m l[t.toNat] = false := ile_f (by omega)
      simp only [L19_4, e1, e2, e3, cond_true, Option.bind_some, cond_false, w, e4, e5]
      exact ih n (t + 1) (by omega) (by omega) (by omega)
theorem node_spec {n : Nat} {m i : Int} {x : Nod} (hn : 60 ≤ n) (h0 : 0 ≤ i) (him : i < m) (hm : m ≤ 200) (hx : okNode m i x) : nodeR n x m = some (true, ()) := by
  obtain ⟨k, rfl⟩ : ∃ k, n = k + 60 := ⟨n - 60, by omega⟩
  rcases hx with rfl | ⟨l, rfl | ⟨rfl, h2⟩, h4, hl⟩
  · unfold nodeR scal
    simp only [valid_str, Option.bind_some, Bool.not_true, cond_false]
    rw [show (tagStr == [33]) = false from by decide, show ilt 1000 (len tagStr) = false from by decide]
    simp only [cond_false]
    rw [L19_spec m 1 tagStr _ true [] (by simp) (fun x h => by cases h) 0 _ 0 (Int.le_refl _) rfl (by omega)]
    simp only [Option.bind_some, beq_self_eq_true, cond_true, len, List.length_nil, Int.ofNat_zero, show (((0 : Nat) : Int) == 0) = true from rfl]
    first
      | (rw [txt_spec (by omega) h0 (by omega)]; rfl)
      | (simp only [txt_spec (n := k + 60) (by omega) h0 (by omega)]; rfl)
  · unfold nodeR coll
    simp only [valid_seq, Option.bind_some, Bool.not_true, cond_false]
    rw [show (tagSeq == [33]) = false from by decide, show ilt 1000 (len tagSeq) = false from by decide]
    simp only [cond_false]
    rw [L19_spec m 2 tagSeq _ false l (by omega) (fun x h => by have := hl x h; omega) l.length _ 0 (Int.le_refl _) (by omega) (by omega)]
    rfl
  · unfold nodeR coll
    simp only [valid_map, Option.bind_some, Bool.not_true, cond_false]
    rw [show (tagMap == [33]) = false from by decide, show ilt 1000 (len tagMap) = false from by decide]
    simp only [cond_false]
    rw [L19_spec m 3 tagMap _ false l (by omega) (fun x h => by have := hl x h; omega) l.length _ 0 (Int.le_refl _) (by omega) (by omega)]
    have e : (Int.tmod (len l) 2 == 0) = true := by
      unfold len
      rw [beq_iff_eq, Int.tmod_eq_emod_of_nonneg (by omega)]
      omega
    simp only [Option.bind_some]
    rw [e]
    rfl
end Go.Proofs.YtoiiimbhfdnomaaDoor
/- The graphs that are drawn are right. -/
namespace Go.Proofs.YtoiiimbhfdnomaaDoor
open Go Go.Iv Go.Gv
theorem okNode_len {m i : Int} {x : Nod} (h : okNode m i x) : x.2.2.2.1.length ≤ 4 := by
  rcases h with rfl | ⟨l, rfl | ⟨rfl, _⟩, h4, _⟩
  · exact Nat.zero_le _
  · exact h4
  · exact h4
theorem L13_spec (m : Int) (hm1 : 1 ≤ m) (hm : m ≤ 200) (g : List Nod) (rt : List Int) (hg : (g.length : Int) = m) (hok : ∀ (j : Nat) x, g[j]? = some x → okNode m j x) : ∀ (k n : Nat) (t4 t5 : Int), 0 ≤ t5 → t5 + k = m → 0 ≤ t4 → t4 ≤ 4 * t5 → k + 60 < n →
    L13_6 n m t4 t5 g rt = some (.inl (((), (m, ())), ((g, (rt, ())), ()))) := by
  intro k
  induction k with
  | zero =>
    intro n t4 t5 h0 h1 h2 h3 hn
    cases n with
    | zero => omega
    | succ n =>
      have e1 : ilt t5 m = false := ilt_f (by omega)
      simp only [L13_6, e1, cond_false]
  | succ k ih =>
    intro n t4 t5 h0 h1 h2 h3 hn
    cases n with
    | zero => omega
    | succ n =>
      have e1 : ilt t5 m = true := ilt_t (by omega)
      have e2 : ile 0 t5 = true := ile_t h0
      have hlt : t5.toNat < g.length := by omega
      have e3 : g[t5.toNat]? = some g[t5.toNat] := List.getElem?_eq_getElem hlt
      have hx := hok t5.toNat _ e3
      rw [Int.toNat_of_nonneg h0] at hx
      have hl := okNode_len hx
      generalize g[t5.toNat] = x at e3 hx hl
      have hlen : 0 ≤ len x.2.2.2.1 ∧ len x.2.2.2.1 ≤ 4 := by unfold len; omega
      have w1 : IntKind.wrap .i64 (t4 + len x.2.2.2.1) = t4 + len x.2.2.2.1 := wrap_id (by omega) (by omega)
      have w2 : IntKind.wrap .i64 (t5 + 1) = t5 + 1 := wrap_id (by omega) (by omega)
      have e4 : ilt 20000 (t4 + len x.2.2.2.1) = false := ilt_f (by omega)
      have e5 : nodeR (n + 1) (x.1, (x.2.1, (x.2.2.1, (x.2.2.2.1, x.2.2.2.2)))) m = some (true, ()) := node_spec (by omega) h0 (by omega) hm hx
      simp only [L13_6, e1, e2, e3, cond_true, Option.bind_some, w1, w2, e4, cond_false, e5, Bool.not_true]
      exact ih n _ _ (by omega) (by omega) (by omega) (by omega) (by omega)
theorem right_spec (n : Nat) (hn : 300 ≤ n) (seed m : Int) : rightR n (graphM seed m) = some (true, ()) := by
  obtain ⟨h1, h2⟩ := graphM_ok seed m
  have hs := sizeM_ok m
  have hr : (graphM seed m).2 = [0] := rfl
  generalize graphM seed m = g at h1 h2 hr
  obtain ⟨g, rt⟩ := g
  simp only at h1 h2 hr
  subst hr
  unfold rightR
  have e1 : ilt 20000 (len g) = false := ilt_f (by unfold len; omega)
  have e0 : len g = sizeM m := h1
  simp only [e1, cond_false, show ilt 20000 (len ([0] : List Int)) = false from by decide]
  rw [e0, L13_spec (sizeM m) hs.1 hs.2 g [0] h1 h2 (sizeM m).toNat n 0 0 (Int.le_refl _) (by omega) (Int.le_refl _) (Int.le_refl _) (by omega)]
  obtain ⟨k, rfl⟩ : ∃ k, n = k + 10 := ⟨n - 10, by omega⟩
  have e2 : ile (sizeM m) 0 = false := ile_f (by omega)
  simp only [Option.bind_some]
  have e3 : L13_12 (k + 10 + 6) (sizeM m) 0 g [0] = some (.inl ((), ((g, ([0], ())), ()))) := by
    simp only [L13_12, show ilt 0 (len ([0] : List Int)) = true from by decide, show ile 0 (0 : Int) = true from by decide, cond_true, show Int.toNat 0 = 0 from rfl, List.getElem?_cons_zero, Option.bind_some, show ilt (0 : Int) 0 = false from by decide, cond_false, e2, show IntKind.wrap .i64 (0 + 1) = 1 from rfl, show ilt 1 (len ([0] : List Int)) = false from by decide]
  rw [e3]
  rfl
theorem may_spec (n : Nat) (hn : 300 ≤ n) (seed m : Int) : mayR n (graphM seed m) 0 = some (true, ()) := by
  have hs := sizeM_ok m
  have h1 : len (graphM seed m).1 = sizeM m := (graphM_ok seed m).1
  unfold mayR
  rw [show ((graphM seed m).1, (graphM seed m).2) = graphM seed m from rfl, right_spec n hn]
  simp only [Option.bind_some, cond_true, show ile 0 (0 : Int) = true from by decide, h1]
  rw [ilt_t (by omega)]
end Go.Proofs.YtoiiimbhfdnomaaDoor
/- Plain functions for the program's. -/
namespace Go.Proofs.YtoiiimbhfdnomaaDoor
open Go Go.Iv Go.Gv
set_option maxRecDepth 100000
set_option linter.unusedVariables false
noncomputable def L28_11_Xexit2 : Tm := ⟨[(1, .one (.fix (TV.all 65))), (3, .one (.fix (TV.ptr 66 0))), (7, .one (.all 71 3 (.int .i64) .ex)), (8, .one (.all 72 3 (.int .i64) .no))], [(65, .arr 4 .bool true false .no), (66, .cells 32 [.lst (.cons (.int .i64) (.cons .str (.cons .str (.cons (.slc (.int .i64)) .bool)))), .lst (.int .i64)] true)], 71, 73, 2008⟩
noncomputable def L28_11_T : Tm := ⟨[(1, .one (.fix (TV.all 65))), (3, .one (.fix (TV.ptr 66 0))), (7, .one (.all 71 3 (.int .i64) .ex)), (8, .one (.all 72 3 (.int .i64) .no)), (10, .one (.lst (.int .i64))), (11, .one (.int .i64))], [(65, .arr 4 .bool true false .no), (66, .cells 32 [.lst (.cons (.int .i64) (.cons .str (.cons .str (.cons (.slc (.int .i64)) .bool)))), .lst (.int .i64)] true)], 71, 73, 2008⟩
noncomputable def L28_11 : Nat → (List Int) → (List Int) → (List Int) → Int → (List Bool) → (List (Int × (List UInt8 × (List UInt8 × (List Int × Bool))))) → (List Int) → Option ((Unit × (Unit × ((List Int) × ((List Int) × Unit)))) × ((List Bool) × (((List (Int × (List UInt8 × (List UInt8 × (List Int × Bool))))) × ((List Int) × Unit)) × Unit)))
 | 0, _, _, _, _, _, _, _ => none
 | n + 1, t7, t8, t10, t11, a65, c66_0, c66_1 =>
  bif (ile (0 : Int) t11) then
   bif (ile (0 : Int) t11) then
   Option.bind (t10[(Int.toNat t11)]?) fun x7 =>
   bif (room (((List.length t8) + (List.length (x7 :: ([] : List Int)))) * 9)) then
   L28_11 n t7 (t8 ++ (x7 :: ([] : List Int))) t10 (IntKind.wrap .i64 (t11 - (1 : Int))) a65 c66_0 c66_1
   else none
   else none
  else
  some (((), ((), (t7, (t8, ())))), (a65, ((c66_0, (c66_1, ())), ())))
noncomputable def L28_11_it : LoopIt := ⟨28, 11, none, L28_11_T, [(.exit 2, L28_11_Xexit2)], 0, fun n x => L28_11 n x.1.2.2.1 x.1.2.2.2.1 x.1.2.2.2.2.1 x.1.2.2.2.2.2.1 x.2.1 x.2.2.1.1 x.2.2.1.2.1, [69]⟩
theorem L28_11_Xexit2_ok : L28_11_Xexit2.ok Tryd.prog hint := by
  intro p hp
  simp only [L28_11_Xexit2, List.mem_cons, List.not_mem_nil, or_false] at hp
  rcases hp with rfl | rfl
  · trivial
  · trivial
theorem L28_11_T_ok : L28_11_T.ok Tryd.prog hint := by
  intro p hp
  simp only [L28_11_T, List.mem_cons, List.not_mem_nil, or_false] at hp
  rcases hp with rfl | rfl
  · trivial
  · trivial
theorem L28_11_ok : ∀ n, LoopOK Tryd.prog hint shT L28_11_it n :=
  LoopOK.of (hk := fun β => (Known.mk [] []).hk β) (sh := shT) (OneLoop.of (by kernel_rfl)) L28_11_T_ok ⟨⟨L28_11_Xexit2_ok, Nat.le_refl _, Nat.le_refl _⟩, trivial⟩ (fun m => KnownOK.hook KnownOK.nil m)
    (fun _ => by kernel_rfl) (fun m x => by kernel_rfl)
noncomputable def L28_11_72_Xexit2 : Tm := ⟨[(1, .one (.fix (TV.all 65))), (3, .one (.fix (TV.ptr 66 0))), (7, .one (.all 72 3 (.int .i64) .ex)), (8, .one (.all 73 3 (.int .i64) .no))], [(65, .arr 4 .bool true false .no), (66, .cells 32 [.lst (.cons (.int .i64) (.cons .str (.cons .str (.cons (.slc (.int .i64)) .bool)))), .lst (.int .i64)] true)], 72, 74, 2008⟩
noncomputable def L28_11_72_T : Tm := ⟨[(1, .one (.fix (TV.all 65))), (3, .one (.fix (TV.ptr 66 0))), (7, .one (.all 72 3 (.int .i64) .ex)), (8, .one (.all 73 3 (.int .i64) .no)), (10, .one (.lst (.int .i64))), (11, .one (.int .i64))], [(65, .arr 4 .bool true false .no), (66, .cells 32 [.lst (.cons (.int .i64) (.cons .str (.cons .str (.cons (.slc (.int .i64)) .bool)))), .lst (.int .i64)] true)], 72, 74, 2008⟩
noncomputable def L28_11_72 : Nat → (List Int) → (List Int) → (List Int) → Int → (List Bool) → (List (Int × (List UInt8 × (List UInt8 × (List Int × Bool))))) → (List Int) → Option ((Unit × (Unit × ((List Int) × ((List Int) × Unit)))) × ((List Bool) × (((List (Int × (List UInt8 × (List UInt8 × (List Int × Bool))))) × ((List Int) × Unit)) × Unit)))
 | 0, _, _, _, _, _, _, _ => none
 | n + 1, t7, t8, t10, t11, a65, c66_0, c66_1 =>
  bif (ile (0 : Int) t11) then
   bif (ile (0 : Int) t11) then
   Option.bind (t10[(Int.toNat t11)]?) fun x15 =>
   bif (room (((List.length t8) + (List.length (x15 :: ([] : List Int)))) * 9)) then
   L28_11_72 n t7 (t8 ++ (x15 :: ([] : List Int))) t10 (IntKind.wrap .i64 (t11 - (1 : Int))) a65 c66_0 c66_1
   else none
   else none
  else
  some (((), ((), (t7, (t8, ())))), (a65, ((c66_0, (c66_1, ())), ())))
noncomputable def L28_11_72_it : LoopIt := ⟨28, 11, none, L28_11_72_T, [(.exit 2, L28_11_72_Xexit2)], 0, fun n x => L28_11_72 n x.1.2.2.1 x.1.2.2.2.1 x.1.2.2.2.2.1 x.1.2.2.2.2.2.1 x.2.1 x.2.2.1.1 x.2.2.1.2.1, [70]⟩
theorem L28_11_72_Xexit2_ok : L28_11_72_Xexit2.ok Tryd.prog hint := by
  intro p hp
  simp only [L28_11_72_Xexit2, List.mem_cons, List.not_mem_nil, or_false] at hp
  rcases hp with rfl | rfl
  · trivial
  · trivial
theorem L28_11_72_T_ok : L28_11_72_T.ok Tryd.prog hint := by
  intro p hp
  simp only [L28_11_72_T, List.mem_cons, List.not_mem_nil, or_false] at hp
  rcases hp with rfl | rfl
  · trivial
  · trivial
theorem L28_11_72_ok : ∀ n, LoopOK Tryd.prog hint shT L28_11_72_it n :=
  LoopOK.of (hk := fun β => (Known.mk [] []).hk β) (sh := shT) (OneLoop.of (by kernel_rfl)) L28_11_72_T_ok ⟨⟨L28_11_72_Xexit2_ok, Nat.le_refl _, Nat.le_refl _⟩, trivial⟩ (fun m => KnownOK.hook KnownOK.nil m)
    (fun _ => by kernel_rfl) (fun m x => by kernel_rfl)
noncomputable def L28_3_Xexit0 : Tm := ⟨[(7, .one (.all 68 3 (.int .i64) .ex))], [(65, .arr 4 .bool true false .no), (66, .cells 32 [.lst (.cons (.int .i64) (.cons .str (.cons .str (.cons (.slc (.int .i64)) .bool)))), .lst (.int .i64)] true)], 68, 69, 1004⟩
noncomputable def L28_3_T : Tm := ⟨[(1, .one (.fix (TV.all 65))), (3, .one (.fix (TV.ptr 66 0))), (7, .one (.all 68 3 (.int .i64) .ex)), (8, .one (.all 69 3 (.int .i64) .no))], [(65, .arr 4 .bool true false .no), (66, .cells 32 [.lst (.cons (.int .i64) (.cons .str (.cons .str (.cons (.slc (.int .i64)) .bool)))), .lst (.int .i64)] true)], 68, 70, 1004⟩
noncomputable def L28_3 : Nat → (List Int) → (List Int) → (List Bool) → (List (Int × (List UInt8 × (List UInt8 × (List Int × Bool))))) → (List Int) → Option (((List Int) × Unit) × ((List Bool) × (((List (Int × (List UInt8 × (List UInt8 × (List Int × Bool))))) × ((List Int) × Unit)) × Unit)))
 | 0, _, _, _, _, _ => none
 | n + 1, t7, t8, a65, c66_0, c66_1 =>
  bif (ilt (0 : Int) (len t8)) then
   bif ((ile (0 : Int) (IntKind.wrap .i64 ((len t8) - (1 : Int)))) && (ilt (IntKind.wrap .i64 ((len t8) - (1 : Int))) (len t8))) then
   Option.bind (t8[(Int.toNat (IntKind.wrap .i64 ((len t8) - (1 : Int))))]?) fun x22 =>
   bif ((ile (0 : Int) (IntKind.wrap .i64 ((len t8) - (1 : Int)))) && (ile (IntKind.wrap .i64 ((len t8) - (1 : Int))) (len t8))) then
   bif ((ile (0 : Int) x22) && (ilt x22 (len a65))) then
   Option.bind (a65[(Int.toNat x22)]?) fun x23 =>
   bif x23 then
    L28_3 n t7 (List.take ((Int.toNat (IntKind.wrap .i64 ((len t8) - (1 : Int)))) - 0) (List.drop 0 t8)) a65 c66_0 c66_1
   else
   bif ((ile (0 : Int) x22) && (ilt x22 (len a65))) then
   Option.bind (a65[(Int.toNat x22)]?) fun _ =>
   bif (room (((List.length t7) + (List.length (x22 :: ([] : List Int)))) * 9)) then
   bif (ile (0 : Int) x22) then
   Option.bind (c66_0[(Int.toNat x22)]?) fun x25 =>
   Option.bind (L28_11_72 (n + 2) (t7 ++ (x22 :: ([] : List Int))) (List.take ((Int.toNat (IntKind.wrap .i64 ((len t8) - (1 : Int)))) - 0) (List.drop 0 t8)) x25.2.2.2.1 (IntKind.wrap .i64 ((len x25.2.2.2.1) - (1 : Int))) (List.set a65 (Int.toNat x22) true) c66_0 c66_1) fun y26 =>
   L28_3 n y26.1.2.2.1 y26.1.2.2.2.1 y26.2.1 y26.2.2.1.1 y26.2.2.1.2.1
   else none
   else none
   else none
   else none
   else none
   else none
  else
  some ((t7, ()), (a65, ((c66_0, (c66_1, ())), ())))
noncomputable def L28_3_it : LoopIt := ⟨28, 3, none, L28_3_T, [(.exit 0, L28_3_Xexit0)], 1, fun n x => L28_3 n x.1.2.2.1 x.1.2.2.2.1 x.2.1 x.2.2.1.1 x.2.2.1.2.1, [64]⟩
theorem L28_3_Xexit0_ok : L28_3_Xexit0.ok Tryd.prog hint := by
  intro p hp
  simp only [L28_3_Xexit0, List.mem_cons, List.not_mem_nil, or_false] at hp
  rcases hp with rfl | rfl
  · trivial
  · trivial
theorem L28_3_T_ok : L28_3_T.ok Tryd.prog hint := by
  intro p hp
  simp only [L28_3_T, List.mem_cons, List.not_mem_nil, or_false] at hp
  rcases hp with rfl | rfl
  · trivial
  · trivial
theorem L28_3_ok : ∀ n, LoopOK Tryd.prog hint shT L28_3_it n :=
  LoopOK.of (hk := fun β => (Known.mk [] [L28_11_72_it]).hk β) (sh := shT) (OneLoop.of (by kernel_rfl)) L28_3_T_ok ⟨⟨L28_3_Xexit0_ok, Nat.le_refl _, Nat.le_refl _⟩, trivial⟩ (fun m => KnownOK.hook (KnownOK.nil.loop L28_11_72_ok L28_11_72_T_ok) m)
    (fun _ => by kernel_rfl) (fun m x => by kernel_rfl)
noncomputable def reachR (n : Nat) (g : (List (Int × (List UInt8 × (List UInt8 × (List Int × Bool)))) × List Int)) (root : Int) : Option ((List Int) × Unit) :=
 Option.bind (mayR n (g.1, g.2) root) fun y0 =>
 bif (!y0.1) then
  some (([] : List Int), ())
 else
 bif ((ile (len g.1) (len g.1)) && (ile ((len g.1) * (2 : Int)) (1099511627776 : Int))) then
 Option.bind (L28_3 (n + 6) ([] : List Int) (root :: ([] : List Int)) (List.replicate (Int.toNat (len g.1)) false) g.1 g.2) fun y27 =>
 some (y27.1.1, ())
 else none
noncomputable def reachR_it : FnIt := ⟨21, [(true, (.cons (.slc (.cons (.int .i64) (.cons .str (.cons .str (.cons (.slc (.int .i64)) .bool))))) (.slc (.int .i64)))), (false, (.int .i64))], [(false, (.slc (.int .i64)))], 8, fun n x => reachR n x.1 x.2.1⟩
theorem reachR_ok (n : Nat) : FnOK Tryd.prog hint shT reachR_it n :=
  FnOK.of (hk := fun β => (Known.mk [mayR_it] [L28_3_it]).hk β) (sh := shT) (fun m _ => KnownOK.hook ((KnownOK.nil.fn mayR_ok).loop L28_3_ok L28_3_T_ok) m) (fun x => by kernel_rfl)
noncomputable def L14_13_Xexit2 : Tm := ⟨[(2, .one (.fix (TV.ptr 64 0))), (5, .one (.lst (.int .i64))), (6, .one (.all 69 3 (.int .i64) .no)), (7, .one (.nst 70 22 (.slc (.int .i64)) 0 3 (.int .i64) .no)), (8, .one (.fix (TV.raw (Go.Value.slice (Option.none) 0 0)))), (9, .one (.int .i64)), (10, .one (.lst (.int .i64)))], [(64, .cells 32 [.lst (.cons (.int .i64) (.cons .str (.cons .str (.cons (.slc (.int .i64)) .bool)))), .lst (.int .i64)] true)], 69, 71, 2005⟩
noncomputable def L14_13_T : Tm := ⟨[(2, .one (.fix (TV.ptr 64 0))), (5, .one (.lst (.int .i64))), (6, .one (.all 69 3 (.int .i64) .no)), (7, .one (.nst 70 22 (.slc (.int .i64)) 0 3 (.int .i64) .no)), (8, .one (.fix (TV.raw (Go.Value.slice (Option.none) 0 0)))), (9, .one (.int .i64)), (10, .one (.lst (.int .i64))), (11, .one (.int .i64))], [(64, .cells 32 [.lst (.cons (.int .i64) (.cons .str (.cons .str (.cons (.slc (.int .i64)) .bool)))), .lst (.int .i64)] true)], 69, 71, 2005⟩
noncomputable def L14_13 : Nat → (List Int) → (List Int) → (List (List Int)) → Int → (List Int) → Int → (List (Int × (List UInt8 × (List UInt8 × (List Int × Bool))))) → (List Int) → Option ((Unit × ((List Int) × ((List Int) × ((List (List Int)) × (Unit × (Int × ((List Int) × Unit))))))) × (((List (Int × (List UInt8 × (List UInt8 × (List Int × Bool))))) × ((List Int) × Unit)) × Unit))
 | 0, _, _, _, _, _, _, _, _ => none
 | n + 1, t5, t6, t7, t9, t10, t11, c64_0, c64_1 =>
  bif (ilt t11 (len t10)) then
   bif (ile (0 : Int) t11) then
   Option.bind (t10[(Int.toNat t11)]?) fun x14 =>
   bif (ile (0 : Int) t11) then
   Option.bind (t10[(Int.toNat t11)]?) fun x15 =>
   bif ((ile (0 : Int) x15) && (ilt x15 (len t7))) then
   Option.bind (t7[(Int.toNat x15)]?) fun x16 =>
   bif (ile (0 : Int) t9) then
   Option.bind (t5[(Int.toNat t9)]?) fun x17 =>
   bif (room (((List.length x16) + (List.length (x17 :: ([] : List Int)))) * 9)) then
   bif ((ile (0 : Int) x14) && (ilt x14 (len t7))) then
   bif (Nat.beq (Int.toNat x14) (Int.toNat x15)) then
   L14_13 n t5 t6 (List.set t7 (Int.toNat x14) (x16 ++ (x17 :: ([] : List Int)))) t9 t10 (IntKind.wrap .i64 (t11 + (1 : Int))) c64_0 c64_1
   else none
   else none
   else none
   else none
   else none
   else none
   else none
  else
  some (((), (t5, (t6, (t7, ((), (t9, (t10, ()))))))), ((c64_0, (c64_1, ())), ()))
noncomputable def L14_13_it : LoopIt := ⟨14, 13, none, L14_13_T, [(.exit 2, L14_13_Xexit2)], 0, fun n x => L14_13 n x.1.2.1 x.1.2.2.1 x.1.2.2.2.1 x.1.2.2.2.2.2.1 x.1.2.2.2.2.2.2.1 x.1.2.2.2.2.2.2.2.1 x.2.1.1 x.2.1.2.1, []⟩
theorem L14_13_Xexit2_ok : L14_13_Xexit2.ok Tryd.prog hint := by
  intro p hp
  simp only [L14_13_Xexit2, List.mem_cons, List.not_mem_nil, or_false] at hp
  rcases hp with rfl
  · trivial
theorem L14_13_T_ok : L14_13_T.ok Tryd.prog hint := by
  intro p hp
  simp only [L14_13_T, List.mem_cons, List.not_mem_nil, or_false] at hp
  rcases hp with rfl
  · trivial
theorem L14_13_ok : ∀ n, LoopOK Tryd.prog hint shT L14_13_it n :=
  LoopOK.of (hk := fun β => (Known.mk [] []).hk β) (sh := shT) (OneLoop.of (by kernel_rfl)) L14_13_T_ok ⟨⟨L14_13_Xexit2_ok, Nat.le_refl _, Nat.le_refl _⟩, trivial⟩ (fun m => KnownOK.hook KnownOK.nil m)
    (fun _ => by kernel_rfl) (fun m x => by kernel_rfl)
noncomputable def L14_13_70_Xexit2 : Tm := ⟨[(2, .one (.fix (TV.ptr 64 0))), (5, .one (.lst (.int .i64))), (6, .one (.all 70 3 (.int .i64) .no)), (7, .one (.nst 71 22 (.slc (.int .i64)) 0 3 (.int .i64) .no)), (8, .one (.all 72 3 (.int .i64) .ex)), (9, .one (.int .i64)), (10, .one (.lst (.int .i64)))], [(64, .cells 32 [.lst (.cons (.int .i64) (.cons .str (.cons .str (.cons (.slc (.int .i64)) .bool)))), .lst (.int .i64)] true)], 70, 73, 2005⟩
noncomputable def L14_13_70_T : Tm := ⟨[(2, .one (.fix (TV.ptr 64 0))), (5, .one (.lst (.int .i64))), (6, .one (.all 70 3 (.int .i64) .no)), (7, .one (.nst 71 22 (.slc (.int .i64)) 0 3 (.int .i64) .no)), (8, .one (.all 72 3 (.int .i64) .ex)), (9, .one (.int .i64)), (10, .one (.lst (.int .i64))), (11, .one (.int .i64))], [(64, .cells 32 [.lst (.cons (.int .i64) (.cons .str (.cons .str (.cons (.slc (.int .i64)) .bool)))), .lst (.int .i64)] true)], 70, 73, 2005⟩
noncomputable def L14_13_70 : Nat → (List Int) → (List Int) → (List (List Int)) → (List Int) → Int → (List Int) → Int → (List (Int × (List UInt8 × (List UInt8 × (List Int × Bool))))) → (List Int) → Option ((Unit × ((List Int) × ((List Int) × ((List (List Int)) × ((List Int) × (Int × ((List Int) × Unit))))))) × (((List (Int × (List UInt8 × (List UInt8 × (List Int × Bool))))) × ((List Int) × Unit)) × Unit))
 | 0, _, _, _, _, _, _, _, _, _ => none
 | n + 1, t5, t6, t7, t8, t9, t10, t11, c64_0, c64_1 =>
  bif (ilt t11 (len t10)) then
   bif (ile (0 : Int) t11) then
   Option.bind (t10[(Int.toNat t11)]?) fun x32 =>
   bif (ile (0 : Int) t11) then
   Option.bind (t10[(Int.toNat t11)]?) fun x33 =>
   bif ((ile (0 : Int) x33) && (ilt x33 (len t7))) then
   Option.bind (t7[(Int.toNat x33)]?) fun x34 =>
   bif (ile (0 : Int) t9) then
   Option.bind (t5[(Int.toNat t9)]?) fun x35 =>
   bif (room (((List.length x34) + (List.length (x35 :: ([] : List Int)))) * 9)) then
   bif ((ile (0 : Int) x32) && (ilt x32 (len t7))) then
   bif (Nat.beq (Int.toNat x32) (Int.toNat x33)) then
   L14_13_70 n t5 t6 (List.set t7 (Int.toNat x32) (x34 ++ (x35 :: ([] : List Int)))) t8 t9 t10 (IntKind.wrap .i64 (t11 + (1 : Int))) c64_0 c64_1
   else none
   else none
   else none
   else none
   else none
   else none
   else none
  else
  some (((), (t5, (t6, (t7, (t8, (t9, (t10, ()))))))), ((c64_0, (c64_1, ())), ()))
noncomputable def L14_13_70_it : LoopIt := ⟨14, 13, none, L14_13_70_T, [(.exit 2, L14_13_70_Xexit2)], 0, fun n x => L14_13_70 n x.1.2.1 x.1.2.2.1 x.1.2.2.2.1 x.1.2.2.2.2.1 x.1.2.2.2.2.2.1 x.1.2.2.2.2.2.2.1 x.1.2.2.2.2.2.2.2.1 x.2.1.1 x.2.1.2.1, []⟩
theorem L14_13_70_Xexit2_ok : L14_13_70_Xexit2.ok Tryd.prog hint := by
  intro p hp
  simp only [L14_13_70_Xexit2, List.mem_cons, List.not_mem_nil, or_false] at hp
  rcases hp with rfl
  · trivial
theorem L14_13_70_T_ok : L14_13_70_T.ok Tryd.prog hint := by
  intro p hp
  simp only [L14_13_70_T, List.mem_cons, List.not_mem_nil, or_false] at hp
  rcases hp with rfl
  · trivial
theorem L14_13_70_ok : ∀ n, LoopOK Tryd.prog hint shT L14_13_70_it n :=
  LoopOK.of (hk := fun β => (Known.mk [] []).hk β) (sh := shT) (OneLoop.of (by kernel_rfl)) L14_13_70_T_ok ⟨⟨L14_13_70_Xexit2_ok, Nat.le_refl _, Nat.le_refl _⟩, trivial⟩ (fun m => KnownOK.hook KnownOK.nil m)
    (fun _ => by kernel_rfl) (fun m x => by kernel_rfl)
noncomputable def L14_8_Xexit0 : Tm := ⟨[(5, .one (.lst (.int .i64))), (6, .one (.all 67 3 (.int .i64) .no)), (7, .one (.nst 68 22 (.slc (.int .i64)) 0 3 (.int .i64) .no)), (8, .one (.all 69 3 (.int .i64) .ex))], [(64, .cells 32 [.lst (.cons (.int .i64) (.cons .str (.cons .str (.cons (.slc (.int .i64)) .bool)))), .lst (.int .i64)] true)], 67, 70, 1003⟩
noncomputable def L14_8_T : Tm := ⟨[(2, .one (.fix (TV.ptr 64 0))), (5, .one (.lst (.int .i64))), (6, .one (.all 67 3 (.int .i64) .no)), (7, .one (.nst 68 22 (.slc (.int .i64)) 0 3 (.int .i64) .no)), (8, .one (.all 69 3 (.int .i64) .ex)), (9, .one (.int .i64))], [(64, .cells 32 [.lst (.cons (.int .i64) (.cons .str (.cons .str (.cons (.slc (.int .i64)) .bool)))), .lst (.int .i64)] true)], 67, 70, 1003⟩
noncomputable def L14_8 : Nat → (List Int) → (List Int) → (List (List Int)) → (List Int) → Int → (List (Int × (List UInt8 × (List UInt8 × (List Int × Bool))))) → (List Int) → Option (((List Int) × ((List Int) × ((List (List Int)) × ((List Int) × Unit)))) × (((List (Int × (List UInt8 × (List UInt8 × (List Int × Bool))))) × ((List Int) × Unit)) × Unit))
 | 0, _, _, _, _, _, _, _ => none
 | n + 1, t5, t6, t7, t8, t9, c64_0, c64_1 =>
  bif (ilt t9 (len t5)) then
   bif (ile (0 : Int) t9) then
   Option.bind (t5[(Int.toNat t9)]?) fun x44 =>
   bif (ile (0 : Int) x44) then
   Option.bind (c64_0[(Int.toNat x44)]?) fun x45 =>
   bif (ile (0 : Int) t9) then
   Option.bind (t5[(Int.toNat t9)]?) fun x46 =>
   bif ((ile (0 : Int) x46) && (ilt x46 (len t6))) then
   Option.bind (t6[(Int.toNat x46)]?) fun _ =>
   Option.bind (L14_13_70 (n + 2) t5 (List.set t6 (Int.toNat x46) (len x45.2.2.2.1)) t7 t8 t9 x45.2.2.2.1 (0 : Int) c64_0 c64_1) fun y48 =>
   bif ((len y48.1.2.2.2.2.2.2.1) == (0 : Int)) then
    bif (ile (0 : Int) y48.1.2.2.2.2.2.1) then
    Option.bind (y48.1.2.1[(Int.toNat y48.1.2.2.2.2.2.1)]?) fun x49 =>
    bif (room (((List.length y48.1.2.2.2.2.1) + (List.length (x49 :: ([] : List Int)))) * 9)) then
    L14_8 n y48.1.2.1 y48.1.2.2.1 y48.1.2.2.2.1 (y48.1.2.2.2.2.1 ++ (x49 :: ([] : List Int))) (IntKind.wrap .i64 (y48.1.2.2.2.2.2.1 + (1 : Int))) y48.2.1.1 y48.2.1.2.1
    else none
    else none
   else
   L14_8 n y48.1.2.1 y48.1.2.2.1 y48.1.2.2.2.1 y48.1.2.2.2.2.1 (IntKind.wrap .i64 (y48.1.2.2.2.2.2.1 + (1 : Int))) y48.2.1.1 y48.2.1.2.1
   else none
   else none
   else none
   else none
  else
  some ((t5, (t6, (t7, (t8, ())))), ((c64_0, (c64_1, ())), ()))
noncomputable def L14_8_it : LoopIt := ⟨14, 8, none, L14_8_T, [(.exit 0, L14_8_Xexit0)], 1, fun n x => L14_8 n x.1.2.1 x.1.2.2.1 x.1.2.2.2.1 x.1.2.2.2.2.1 x.1.2.2.2.2.2.1 x.2.1.1 x.2.1.2.1, []⟩
theorem L14_8_Xexit0_ok : L14_8_Xexit0.ok Tryd.prog hint := by
  intro p hp
  simp only [L14_8_Xexit0, List.mem_cons, List.not_mem_nil, or_false] at hp
  rcases hp with rfl
  · trivial
theorem L14_8_T_ok : L14_8_T.ok Tryd.prog hint := by
  intro p hp
  simp only [L14_8_T, List.mem_cons, List.not_mem_nil, or_false] at hp
  rcases hp with rfl
  · trivial
theorem L14_8_ok : ∀ n, LoopOK Tryd.prog hint shT L14_8_it n :=
  LoopOK.of (hk := fun β => (Known.mk [] [L14_13_70_it]).hk β) (sh := shT) (OneLoop.of (by kernel_rfl)) L14_8_T_ok ⟨⟨L14_8_Xexit0_ok, Nat.le_refl _, Nat.le_refl _⟩, trivial⟩ (fun m => KnownOK.hook (KnownOK.nil.loop L14_13_70_ok L14_13_70_T_ok) m)
    (fun _ => by kernel_rfl) (fun m x => by kernel_rfl)
noncomputable def L14_24_Xexit6 : Tm := ⟨[(5, .one (.lst (.int .i64))), (6, .one (.all 73 3 (.int .i64) .no)), (7, .one (.nst 74 22 (.slc (.int .i64)) 0 3 (.int .i64) .no)), (8, .one (.all 75 3 (.int .i64) .any)), (12, .one (.int .i64))], [], 73, 76, 3005⟩
noncomputable def L14_24_T : Tm := ⟨[(5, .one (.lst (.int .i64))), (6, .one (.all 73 3 (.int .i64) .no)), (7, .one (.nst 74 22 (.slc (.int .i64)) 0 3 (.int .i64) .no)), (8, .one (.all 75 3 (.int .i64) .any)), (12, .one (.int .i64)), (13, .one (.int .i64)), (14, .one (.int .i64))], [], 73, 76, 3005⟩
noncomputable def L14_24 : Nat → (List Int) → (List Int) → (List (List Int)) → (List Int) → Int → Int → Int → Option (((List Int) × ((List Int) × ((List (List Int)) × ((List Int) × (Int × Unit))))) × Unit)
 | 0, _, _, _, _, _, _, _ => none
 | n + 1, t5, t6, t7, t8, t12, t13, t14 =>
  bif ((ile (0 : Int) t13) && (ilt t13 (len t7))) then
  Option.bind (t7[(Int.toNat t13)]?) fun x64 =>
  bif (ilt t14 (len x64)) then
   bif ((ile (0 : Int) t13) && (ilt t13 (len t7))) then
   Option.bind ((List.set t7 (Int.toNat t13) x64)[(Int.toNat t13)]?) fun x65 =>
   bif ((ile (0 : Int) t14) && (ilt t14 (len x65))) then
   Option.bind (x65[(Int.toNat t14)]?) fun x66 =>
   bif ((ile (0 : Int) x66) && (ilt x66 (len t6))) then
   Option.bind (t6[(Int.toNat x66)]?) fun x67 =>
   bif ((ile (0 : Int) x66) && (ilt x66 (len t6))) then
   Option.bind (t6[(Int.toNat x66)]?) fun _ =>
   bif ((ile (0 : Int) x66) && (ilt x66 (len (List.set t6 (Int.toNat x66) (IntKind.wrap .i64 (x67 - (1 : Int))))))) then
   Option.bind ((List.set t6 (Int.toNat x66) (IntKind.wrap .i64 (x67 - (1 : Int))))[(Int.toNat x66)]?) fun x69 =>
   bif (x69 == (0 : Int)) then
    bif (room (((List.length t8) + (List.length (x66 :: ([] : List Int)))) * 9)) then
    L14_24 n t5 (List.set t6 (Int.toNat x66) (IntKind.wrap .i64 (x67 - (1 : Int)))) (List.set (List.set t7 (Int.toNat t13) x64) (Int.toNat t13) x65) (t8 ++ (x66 :: ([] : List Int))) t12 t13 (IntKind.wrap .i64 (t14 + (1 : Int)))
    else none
   else
   L14_24 n t5 (List.set t6 (Int.toNat x66) (IntKind.wrap .i64 (x67 - (1 : Int)))) (List.set (List.set t7 (Int.toNat t13) x64) (Int.toNat t13) x65) t8 t12 t13 (IntKind.wrap .i64 (t14 + (1 : Int)))
   else none
   else none
   else none
   else none
   else none
  else
  some ((t5, (t6, ((List.set t7 (Int.toNat t13) x64), (t8, (t12, ()))))), ())
  else none
noncomputable def L14_24_it : LoopIt := ⟨14, 24, none, L14_24_T, [(.exit 6, L14_24_Xexit6)], 0, fun n x => L14_24 n x.1.1 x.1.2.1 x.1.2.2.1 x.1.2.2.2.1 x.1.2.2.2.2.1 x.1.2.2.2.2.2.1 x.1.2.2.2.2.2.2.1, []⟩
theorem L14_24_Xexit6_ok : L14_24_Xexit6.ok Tryd.prog hint := by
  intro p hp
  cases hp
theorem L14_24_T_ok : L14_24_T.ok Tryd.prog hint := by
  intro p hp
  cases hp
theorem L14_24_ok : ∀ n, LoopOK Tryd.prog hint shT L14_24_it n :=
  LoopOK.of (hk := fun β => (Known.mk [] []).hk β) (sh := shT) (OneLoop.of (by kernel_rfl)) L14_24_T_ok ⟨⟨L14_24_Xexit6_ok, Nat.le_refl _, Nat.le_refl _⟩, trivial⟩ (fun m => KnownOK.hook KnownOK.nil m)
    (fun _ => by kernel_rfl) (fun m x => by kernel_rfl)
noncomputable def L14_19_Xexit4 : Tm := ⟨[(5, .one (.lst (.int .i64))), (12, .one (.int .i64))], [], 70, 70, 2004⟩
noncomputable def L14_19_T : Tm := ⟨[(5, .one (.lst (.int .i64))), (6, .one (.all 70 3 (.int .i64) .no)), (7, .one (.nst 71 22 (.slc (.int .i64)) 0 3 (.int .i64) .no)), (8, .one (.all 72 3 (.int .i64) .any)), (12, .one (.int .i64))], [], 70, 73, 2004⟩
noncomputable def L14_19 : Nat → (List Int) → (List Int) → (List (List Int)) → (List Int) → Int → Option (((List Int) × (Int × Unit)) × Unit)
 | 0, _, _, _, _, _ => none
 | n + 1, t5, t6, t7, t8, t12 =>
  bif (ilt (0 : Int) (len t8)) then
   bif ((ile (0 : Int) (IntKind.wrap .i64 ((len t8) - (1 : Int)))) && (ilt (IntKind.wrap .i64 ((len t8) - (1 : Int))) (len t8))) then
   Option.bind (t8[(Int.toNat (IntKind.wrap .i64 ((len t8) - (1 : Int))))]?) fun x75 =>
   bif ((ile (0 : Int) (IntKind.wrap .i64 ((len t8) - (1 : Int)))) && (ile (IntKind.wrap .i64 ((len t8) - (1 : Int))) (len t8))) then
   Option.bind (L14_24 (n + 2) t5 t6 t7 (List.take ((Int.toNat (IntKind.wrap .i64 ((len t8) - (1 : Int)))) - 0) (List.drop 0 t8)) (IntKind.wrap .i64 (t12 + (1 : Int))) x75 (0 : Int)) fun y76 =>
   L14_19 n y76.1.1 y76.1.2.1 y76.1.2.2.1 y76.1.2.2.2.1 y76.1.2.2.2.2.1
   else none
   else none
  else
  some ((t5, (t12, ())), ())
noncomputable def L14_19_it : LoopIt := ⟨14, 19, none, L14_19_T, [(.exit 4, L14_19_Xexit4)], 1, fun n x => L14_19 n x.1.1 x.1.2.1 x.1.2.2.1 x.1.2.2.2.1 x.1.2.2.2.2.1, [64]⟩
theorem L14_19_Xexit4_ok : L14_19_Xexit4.ok Tryd.prog hint := by
  intro p hp
  cases hp
theorem L14_19_T_ok : L14_19_T.ok Tryd.prog hint := by
  intro p hp
  cases hp
theorem L14_19_ok : ∀ n, LoopOK Tryd.prog hint shT L14_19_it n :=
  LoopOK.of (hk := fun β => (Known.mk [] [L14_24_it]).hk β) (sh := shT) (OneLoop.of (by kernel_rfl)) L14_19_T_ok ⟨⟨L14_19_Xexit4_ok, Nat.le_refl _, Nat.le_refl _⟩, trivial⟩ (fun m => KnownOK.hook (KnownOK.nil.loop L14_24_ok L14_24_T_ok) m)
    (fun _ => by kernel_rfl) (fun m x => by kernel_rfl)
noncomputable def cyclic (n : Nat) (g : (List (Int × (List UInt8 × (List UInt8 × (List Int × Bool)))) × List Int)) (root : Int) : Option (Bool × Unit) :=
 Option.bind (mayR (n + 1) (g.1, g.2) root) fun y0 =>
 bif (!y0.1) then
  some (false, ())
 else
 Option.bind (reachR n (g.1, g.2) root) fun y1 =>
 bif ((ile (len g.1) (len g.1)) && (ile ((len g.1) * (9 : Int)) (1099511627776 : Int))) then
 bif ((ile (len g.1) (len g.1)) && (ile ((len g.1) * (25 : Int)) (1099511627776 : Int))) then
 Option.bind (L14_8 (n + 8) y1.1 (List.replicate (Int.toNat (len g.1)) (0 : Int)) (List.replicate (Int.toNat (len g.1)) ([] : List Int)) ([] : List Int) (0 : Int) g.1 g.2) fun y50 =>
 Option.bind (L14_19 (n + 8) y50.1.1 y50.1.2.1 y50.1.2.2.1 y50.1.2.2.2.1 (0 : Int)) fun y77 =>
 some ((ilt y77.1.2.1 (len y77.1.1)), ())
 else none
 else none
noncomputable def cyclic_it : FnIt := ⟨14, [(true, (.cons (.slc (.cons (.int .i64) (.cons .str (.cons .str (.cons (.slc (.int .i64)) .bool))))) (.slc (.int .i64)))), (false, (.int .i64))], [(false, .bool)], 9, fun n x => cyclic n x.1 x.2.1⟩
theorem cyclic_ok (n : Nat) : FnOK Tryd.prog hint shT cyclic_it n :=
  FnOK.of (hk := fun β => (Known.mk [reachR_it, mayR_it] [L14_19_it, L14_8_it]).hk β) (sh := shT) (fun m _ => KnownOK.hook ((((KnownOK.nil.fn mayR_ok).fn reachR_ok).loop L14_8_ok L14_8_T_ok).loop L14_19_ok L14_19_T_ok) m) (fun x => by kernel_rfl)
noncomputable def graphs (n : Nat) (seed : Int) (m : Int) : Option (Bool × Unit) :=
 Option.bind (alive (n + 6) ) fun y0 =>
 Option.bind (gen (n + 6) seed m) fun y1 =>
 bif y0.1 then
  Option.bind (genR (n + 8) seed m) fun y2 =>
  Option.bind (sameGraph (n + 6) (y1.1.1, y1.1.2) (y2.1.1, y2.1.2)) fun y3 =>
  bif y3.1 then
   Option.bind (rightR (n + 3) (y1.1.1, y1.1.2)) fun y4 =>
   bif y4.1 then
    Option.bind (cyclic n (y1.1.1, y1.1.2) (0 : Int)) fun y5 =>
    some ((!y5.1), ())
   else
   some (false, ())
  else
  some (false, ())
 else
 some (false, ())
noncomputable def graphs_it : FnIt := ⟨4, [(false, (.int .i64)), (false, (.int .i64))], [(false, .bool)], 10, fun n x => graphs n x.1 x.2.1⟩
theorem graphs_ok (n : Nat) : FnOK Tryd.prog hint shT graphs_it n :=
  FnOK.of (hk := fun β => (Known.mk [cyclic_it, rightR_it, sameGraph_it, genR_it, gen_it, alive_it] []).hk β) (sh := shT) (fun m _ => KnownOK.hook ((((((KnownOK.nil.fn alive_ok).fn gen_ok).fn genR_ok).fn sameGraph_ok).fn rightR_ok).fn cyclic_ok) m) (fun x => by kernel_rfl)
end Go.Proofs.YtoiiimbhfdnomaaDoor
/- What is come to from a node. -/
namespace Go.Proofs.YtoiiimbhfdnomaaDoor
open Go Go.Iv Go.Gv
theorem L28_11_spec (t7 t10 : List Int) (a : List Bool) (g : List Nod) (rt : List Int) (ht : t10.length ≤ 10) : ∀ (k n : Nat) (t8 : List Int), k ≤ t10.length → t8.length + k ≤ 5000 → k < n →
    L28_11_72 n t7 t8 t10 ((k : Int) - 1) a g rt = some (((), ((), (t7, (t8 ++ (t10.take k).reverse, ())))), (a, ((g, (rt, ())), ()))) := by
  intro k
  induction k with
  | zero =>
    intro n t8 h1 h2 hn
    cases n with
    | zero => omega
    | succ n =>
      have e1 : ile 0 (((0 : Nat) : Int) - 1) = false := ile_f (by omega)
      simp only [L28_11_72, e1, cond_false, List.take_zero, List.reverse_nil, List.append_nil]
  | succ k ih =>
    intro n t8 h1 h2 hn
    cases n with
    | zero => omega
    | succ n =>
      have e0 : (((k + 1 : Nat) : Int) - 1) = (k : Int) := by omega
      have e1 : ile 0 (k : Int) = true := ile_t (by omega)
      have e3 : t10[k]? = some t10[k] := List.getElem?_eq_getElem (by omega)
      have w : IntKind.wrap .i64 ((k : Int) - 1) = (k : Int) - 1 := wrap_id (by omega) (by omega)
      rw [e0]
      simp only [L28_11_72, e1, cond_true, Int.toNat_natCast, e3, Option.bind_some, w]
      rw [room_ok (by simp; unfold roomy; omega)]
      simp only [cond_true]
      rw [ih n _ (by omega) (by simp; omega) (by omega)]
      have e4 : (List.take (k + 1) t10).reverse = t10[k] :: (List.take k t10).reverse := by
        rw [List.take_add_one, e3, List.reverse_append]; rfl
      rw [e4, List.append_assoc]
      rfl
end Go.Proofs.YtoiiimbhfdnomaaDoor
/- What is come to from a node: no node twice, all Kids with it. -/
namespace Go.Proofs.YtoiiimbhfdnomaaDoor
open Go Go.Iv Go.Gv
def kidsOf (g : List Nod) (k : Int) : List Int := match g[k.toNat]? with
  | some x => x.2.2.2.1
  | none => []
structure RInv (m : Int) (g : List Nod) (out todo : List Int) (seen : List Bool) : Prop where
  len : (seen.length : Int) = m
  nd : out.Nodup
  inn : ∀ k, k ∈ out ↔ (0 ≤ k ∧ seen[k.toNat]? = some true)
  td : ∀ k ∈ todo, 0 ≤ k ∧ k < m
  cl : ∀ k ∈ out, ∀ c ∈ kidsOf g k, c ∈ out ∨ c ∈ todo
theorem kidsOf_ok {m : Int} {g : List Nod} (hok : ∀ (j : Nat) x, g[j]? = some x → okNode m j x) {k : Int} (h0 : 0 ≤ k) : (kidsOf g k).length ≤ 4 ∧ ∀ c ∈ kidsOf g k, k < c ∧ c < m := by
  unfold kidsOf
  split
  · rename_i x hx
    have h := hok _ x hx
    rw [Int.toNat_of_nonneg h0] at h
    refine ⟨okNode_len h, ?_⟩
    rcases h with rfl | ⟨l, rfl | ⟨rfl, _⟩, h4, hl⟩
    · intro c hc; cases hc
    · exact hl
    · exact hl
  · exact ⟨Nat.zero_le _, fun c hc => by cases hc⟩
theorem len_le_of_sub : ∀ {S L : List Int}, S.Nodup → (∀ p ∈ S, p ∈ L) → S.length ≤ L.length := by
  intro S
  induction S with
  | nil => intro L _ _; exact Nat.zero_le _
  | cons p r ih =>
    intro L hn hs
    rw [List.nodup_cons] at hn
    have hp : p ∈ L := hs p List.mem_cons_self
    have h1 := ih (L := L.erase p) hn.2 fun q hq => by
      have hne : q ≠ p := fun e => hn.1 (e ▸ hq)
      exact (List.mem_erase_of_ne hne).2 (hs q (List.mem_cons_of_mem _ hq))
    have h2 := List.length_erase_of_mem hp
    have h3 : 0 < L.length := List.length_pos_of_mem hp
    simp only [List.length_cons]
    omega
theorem nd_len {l : List Int} {m : Int} (hn : l.Nodup) (hr : ∀ k ∈ l, 0 ≤ k ∧ k < m) : l.length ≤ m.toNat := by
  have := len_le_of_sub (L := (List.range m.toNat).map Int.ofNat) hn fun k hk => by
    have := hr k hk
    exact List.mem_map.2 ⟨k.toNat, List.mem_range.2 (by omega), Int.toNat_of_nonneg this.1⟩
  simpa using this
theorem RInv.rng {m : Int} {g : List Nod} {out todo : List Int} {seen : List Bool} (h : RInv m g out todo seen) {k : Int} (hk : k ∈ out) : 0 ≤ k ∧ k < m := by
  obtain ⟨h0, h1⟩ := (h.inn k).1 hk
  have := (List.getElem?_eq_some_iff.1 h1).1
  have := h.len
  omega
theorem L28_3_spec {m : Int} {g : List Nod} (rt : List Int) (hm : m ≤ 200) (hg : (g.length : Int) = m) (hok : ∀ (j : Nat) x, g[j]? = some x → okNode m j x) : ∀ (b n : Nat) (out todo : List Int) (seen : List Bool), RInv m g out todo seen → 5 * (m.toNat - out.length) + todo.length ≤ b → b ≤ 2000 → b + 20 < n →
    ∃ out' seen', L28_3 n out todo seen g rt = some ((out', ()), (seen', ((g, (rt, ())), ()))) ∧ RInv m g out' [] seen' := by
  intro b
  induction b with
  | zero =>
    intro n out todo seen hI hb hb2 hn
    cases n with
    | zero => omega
    | succ n =>
      have : todo = [] := List.eq_nil_of_length_eq_zero (by omega)
      subst this
      refine ⟨out, seen, ?_, hI⟩
      simp only [L28_3, show ilt 0 (len ([] : List Int)) = false from by decide, cond_false]
  | succ b ih =>
    intro n out todo seen hI hb hb2 hn
    cases n with
    | zero => omega
    | succ n =>
      rcases List.eq_nil_or_concat todo with rfl | ⟨td, k, rfl⟩
      · refine ⟨out, seen, ?_, hI⟩
        simp only [L28_3, show ilt 0 (len ([] : List Int)) = false from by decide, cond_false]
      · simp only [List.concat_eq_append] at hI hb ⊢
        have hln : len (td ++ [k]) = (td.length : Int) + 1 := by unfold len; simp
        have hk := hI.td k (by simp)
        have htl : td.length ≤ 2000 := by simp at hb; omega
        have w : IntKind.wrap .i64 ((td.length : Int) + 1 - 1) = (td.length : Int) := by rw [Int.add_sub_cancel]; exact wrap_id (by omega) (by omega)
        have e1 : ilt 0 ((td.length : Int) + 1) = true := ilt_t (by omega)
        have e2 : ile 0 (td.length : Int) = true := ile_t (by omega)
        have e3 : ilt (td.length : Int) ((td.length : Int) + 1) = true := ilt_t (by omega)
        have e4 : (td ++ [k])[td.length]? = some k := by simp
        have e5 : ile (td.length : Int) ((td.length : Int) + 1) = true := ile_t (by omega)
        have hsl : (len seen) = m := hI.len
        have e6 : ile 0 k = true := ile_t hk.1
        have e7 : ilt k m = true := ilt_t hk.2
        have hkl : k.toNat < seen.length := by have := hI.len; omega
        have e8 : seen[k.toNat]? = some seen[k.toNat] := List.getElem?_eq_getElem hkl
        have tk : List.take (td.length - 0) (List.drop 0 (td ++ [k])) = td := by simp
        simp only [L28_3, hln, w, e1, e2, e3, e4, e5, hsl, e6, e7, e8, cond_true, Bool.and_self, Option.bind_some, Int.toNat_natCast, tk]
        cases hs : seen[k.toNat] with
        | true =>
          try simp only [cond_true]
          have hin : k ∈ out := (hI.inn k).2 ⟨hk.1, by rw [e8, hs]⟩
          refine ih n out td seen ⟨hI.len, hI.nd, hI.inn, fun x hx => hI.td x (by simp [hx]), fun x hx c hc => ?_⟩ (by simp at hb; omega) (by omega) (by omega)
          rcases hI.cl x hx c hc with h | h
          · exact .inl h
          · rcases List.mem_append.1 h with h | h
            · exact .inr h
            · rw [List.mem_singleton.1 h]; exact .inl hin
        | false =>
          have hnin : k ∉ out := fun h => by
            have := ((hI.inn k).1 h).2
            rw [e8, hs] at this; cases this
          have hgl : k.toNat < g.length := by omega
          have e9 : g[k.toNat]? = some g[k.toNat] := List.getElem?_eq_getElem hgl
          have hko := kidsOf_ok hok hk.1
          have hke : kidsOf g k = g[k.toNat].2.2.2.1 := by unfold kidsOf; rw [e9]
          have hol := nd_len hI.nd fun x hx => hI.rng hx
          have hnd : (out ++ [k]).Nodup := List.nodup_append.2 ⟨hI.nd, by simp, fun a ha b hb => by rw [List.mem_singleton.1 hb]; exact fun e => hnin (e ▸ ha)⟩
          have hol2 := nd_len (m := m) hnd fun x hx => by
            rcases List.mem_append.1 hx with h | h
            · exact hI.rng h
            · rw [List.mem_singleton.1 h]; exact hk
          simp only [List.length_append, List.length_singleton] at hol2 hb
          have w2 : IntKind.wrap .i64 (len (kidsOf g k) - 1) = ((kidsOf g k).length : Int) - 1 := wrap_id (by unfold len; omega) (by unfold len; omega)
          have r1 : room (List.length out + List.length (k :: ([] : List Int)) * 1) = true := room_ok (by simp; unfold roomy; omega)
          have r2 : room ((List.length out + List.length (k :: ([] : List Int))) * 9) = true := room_ok (by simp; unfold roomy; omega)
          simp only [cond_false, r2, cond_true, e9, Option.bind_some, ← hke, w2]
          rw [L28_11_spec (out ++ [k]) (kidsOf g k) (seen.set k.toNat true) g rt (by omega) (kidsOf g k).length (n + 2) td (Nat.le_refl _) (by omega) (by omega)]
          simp only [Option.bind_some, List.take_length]
          refine ih n (out ++ [k]) (td ++ (kidsOf g k).reverse) (seen.set k.toNat true) ⟨by rw [List.length_set]; exact hI.len, hnd, fun x => ?_, fun x hx => ?_, fun x hx c hc => ?_⟩ (by simp; omega) (by omega) (by omega)
          · rw [List.mem_append, hI.inn x, List.mem_singleton]
            constructor
            · rintro (⟨h1, h2⟩ | rfl)
              · refine ⟨h1, ?_⟩
                rw [List.getElem?_set]
                split
                · simp
                · exact h2
              · exact ⟨hk.1, by rw [List.getElem?_set_self hkl]⟩
            · rintro ⟨h1, h2⟩
              rw [List.getElem?_set] at h2
              split at h2
              · right; omega
              · exact .inl ⟨h1, h2⟩
          · rcases List.mem_append.1 hx with h | h
            · exact hI.td x (by simp [h])
            · have := hko.2 x (List.mem_reverse.1 h); omega
          · rcases List.mem_append.1 hx with h | h
            · rcases hI.cl x h c hc with h' | h'
              · exact .inl (List.mem_append_left _ h')
              · rcases List.mem_append.1 h' with h' | h'
                · exact .inr (List.mem_append_left _ h')
                · rw [List.mem_singleton.1 h']; exact .inl (List.mem_append_right _ (List.mem_singleton.2 rfl))
            · rw [List.mem_singleton.1 h] at hc
              exact .inr (List.mem_append_right _ (List.mem_reverse.2 hc))
end Go.Proofs.YtoiiimbhfdnomaaDoor
/- What the reference tells that is come to. -/
namespace Go.Proofs.YtoiiimbhfdnomaaDoor
open Go Go.Iv Go.Gv
theorem reach_spec (n : Nat) (hn : 2100 ≤ n) (seed m : Int) : ∃ l, reachR n (graphM seed m) 0 = some (l, ()) ∧ l.Nodup ∧ (∀ k ∈ l, 0 ≤ k ∧ k < sizeM m) ∧ ∀ k ∈ l, ∀ c ∈ kidsOf (graphM seed m).1 k, c ∈ l := by
  have hs := sizeM_ok m
  obtain ⟨hg, hok⟩ := graphM_ok seed m
  have hl : len (graphM seed m).1 = sizeM m := hg
  have hI : RInv (sizeM m) (graphM seed m).1 [] [0] (List.replicate (sizeM m).toNat false) := by
    refine ⟨by rw [List.length_replicate]; omega, List.nodup_nil, fun k => ⟨fun h => (by cases h), fun h => ?_⟩, fun k hk => ?_, fun k hk => (by cases hk)⟩
    · obtain ⟨_, h⟩ := h
      rw [List.getElem?_replicate] at h
      split at h <;> cases h
    · rw [List.mem_singleton.1 hk]; omega
  obtain ⟨out, seen, h1, h2⟩ := L28_3_spec (graphM seed m).2 hs.2 hg hok 1100 (n + 6) [] [0] _ hI (by simp; omega) (by omega) (by omega)
  refine ⟨out, ?_, h2.nd, fun k hk => h2.rng hk, fun k hk c hc => ?_⟩
  · unfold reachR
    rw [show ((graphM seed m).1, (graphM seed m).2) = graphM seed m from rfl, may_spec n (by omega)]
    have e1 : ile (sizeM m) (sizeM m) = true := ile_t (Int.le_refl _)
    have e2 : ile (sizeM m * 2) 1099511627776 = true := ile_t (by omega)
    simp only [Option.bind_some, Bool.not_true, cond_false, hl, e1, e2, Bool.and_self, cond_true]
    rw [h1]
    rfl
  · rcases h2.cl k hk c hc with h | h
    · exact h
    · cases h
end Go.Proofs.YtoiiimbhfdnomaaDoor
/- The walk that takes nodes away: what stands above each node. -/
namespace Go.Proofs.YtoiiimbhfdnomaaDoor
open Go Go.Iv Go.Gv
theorem set_sameI {α : Type} {l : List α} {i : Nat} {a : α} (h : l[i]? = some a) : l.set i a = l := by
  apply List.ext_getElem?
  intro k
  rw [List.getElem?_set]
  split
  · rename_i e
    subst e
    rw [if_pos (List.getElem?_eq_some_iff.1 h).1, h]
  · rfl
theorem L14_13_spec {m : Int} (hm : m ≤ 200) {l kd : List Int} {t6 t8 : List Int} {t9 u : Int} (g : List Nod) (rt : List Int) (h9 : 0 ≤ t9) (hu : l[t9.toNat]? = some u) (hk : ∀ c ∈ kd, 0 ≤ c ∧ c < m) (hkn : kd.length ≤ 1000) : ∀ (r n : Nat) (t7 : List (List Int)) (t11 : Int), 0 ≤ t11 → t11 + r = kd.length → r < n → (t7.length : Int) = m → (∀ K ∈ t7, K.length + r ≤ 2000) →
    ∃ t7', L14_13_70 n l t6 t7 t8 t9 kd t11 g rt = some (((), (l, (t6, (t7', (t8, (t9, (kd, ()))))))), ((g, (rt, ())), ())) ∧ t7'.length = t7.length ∧
      ∀ (v : Nat) K, t7[v]? = some K → t7'[v]? = some (K ++ List.replicate ((kd.drop t11.toNat).count (v : Int)) u) := by
  intro r
  induction r with
  | zero =>
    intro n t7 t11 h0 h1 hn h7 hK
    cases n with
    | zero => omega
    | succ n =>
      have e1 : ilt t11 (len kd) = false := ilt_f (by unfold len; omega)
      refine ⟨t7, by simp only [L14_13_70, e1, cond_false], rfl, fun v K hv => ?_⟩
      rw [List.drop_eq_nil_of_le (by omega)]
      simpa using hv
  | succ r ih =>
    intro n t7 t11 h0 h1 hn h7 hK
    cases n with
    | zero => omega
    | succ n =>
      have e1 : ilt t11 (len kd) = true := ilt_t (by unfold len; omega)
      have e2 : ile 0 t11 = true := ile_t h0
      have hlt : t11.toNat < kd.length := by omega
      have e3 : kd[t11.toNat]? = some kd[t11.toNat] := List.getElem?_eq_getElem hlt
      have hc := hk _ (List.getElem_mem hlt)
      have hdr : kd.drop t11.toNat = kd[t11.toNat] :: kd.drop (t11 + 1).toNat := by
        rw [List.drop_eq_getElem_cons hlt, show (t11 + 1).toNat = t11.toNat + 1 by omega]
      generalize kd[t11.toNat] = c at e3 hc hdr
      have hcl : c.toNat < t7.length := by omega
      have e4 : t7[c.toNat]? = some t7[c.toNat] := List.getElem?_eq_getElem hcl
      have hKl := hK _ (List.getElem_mem hcl)
      generalize t7[c.toNat] = K at e4 hKl
      have e5 : ile 0 c = true := ile_t hc.1
      have e6 : ilt c (len t7) = true := ilt_t (by unfold len; omega)
      have e7 : ile 0 t9 = true := ile_t h9
      have r1 : room ((List.length K + List.length (u :: ([] : List Int))) * 9) = true := room_ok (by simp; unfold roomy; omega)
      have w : IntKind.wrap .i64 (t11 + 1) = t11 + 1 := wrap_id (by omega) (by omega)
      have nb : Nat.beq c.toNat c.toNat = true := Nat.beq_refl _
      simp only [L14_13_70, e1, e2, e3, e4, e5, e6, e7, hu, r1, w, nb, cond_true, Bool.and_self, Option.bind_some]
      obtain ⟨t7', q1, q2, q3⟩ := ih n (t7.set c.toNat (K ++ [u])) (t11 + 1) (by omega) (by omega) (by omega) (by rw [List.length_set]; exact h7) (fun K' hK' => by
        rcases List.mem_or_eq_of_mem_set hK' with h | h
        · have := hK K' h; omega
        · rw [h]; simp; omega)
      refine ⟨t7', q1, by rw [q2, List.length_set], fun v K' hv => ?_⟩
      rw [hdr]
      by_cases hvc : v = c.toNat
      · subst hvc
        rw [e4] at hv
        cases hv
        rw [q3 c.toNat (K ++ [u]) (List.getElem?_set_self hcl), Int.toNat_of_nonneg hc.1, List.count_cons_self, List.replicate_succ, List.append_assoc]
        rfl
      · rw [q3 v K' (by rw [List.getElem?_set_ne (fun e => hvc e.symm)]; exact hv)]
        rw [List.count_cons_of_ne (by omega)]
structure UInv (m : Int) (g : List Nod) (P left : List Int) (ups : List (List Int)) (free : List Int) : Prop where
  ll : (left.length : Int) = m
  ul : (ups.length : Int) = m
  lf : ∀ u ∈ P, left[u.toNat]? = some ((kidsOf g u).length : Int)
  up : ∀ (v : Nat) K, ups[v]? = some K → ∀ u, K.count u = if u ∈ P then (kidsOf g u).count (v : Int) else 0
  sz : ∀ K ∈ ups, K.length ≤ 4 * P.length
  fr : free.Nodup
  fm : ∀ u, u ∈ free ↔ u ∈ P ∧ kidsOf g u = []
theorem L14_8_spec {m : Int} {g : List Nod} (rt : List Int) (hm : m ≤ 200) (hg : (g.length : Int) = m) (hok : ∀ (j : Nat) x, g[j]? = some x → okNode m j x) {l : List Int} (hn : l.Nodup) (hl : ∀ k ∈ l, 0 ≤ k ∧ k < m) : ∀ (r n : Nat) (i : Int) (left : List Int) (ups : List (List Int)) (free : List Int), 0 ≤ i → i + r = l.length → r + 10 < n → UInv m g (l.take i.toNat) left ups free →
    ∃ left' ups' free', L14_8 n l left ups free i g rt = some ((l, (left', (ups', (free', ())))), ((g, (rt, ())), ())) ∧ UInv m g l left' ups' free' := by
  have hll := nd_len hn hl
  intro r
  induction r with
  | zero =>
    intro n i left ups free h0 h1 hn' hI
    cases n with
    | zero => omega
    | succ n =>
      have e1 : ilt i (len l) = false := ilt_f (by unfold len; omega)
      refine ⟨left, ups, free, by simp only [L14_8, e1, cond_false], ?_⟩
      rw [List.take_of_length_le (by omega)] at hI
      exact hI
  | succ r ih =>
    intro n i left ups free h0 h1 hn' hI
    cases n with
    | zero => omega
    | succ n =>
      have e1 : ilt i (len l) = true := ilt_t (by unfold len; omega)
      have e2 : ile 0 i = true := ile_t h0
      have hlt : i.toNat < l.length := by omega
      have e3 : l[i.toNat]? = some l[i.toNat] := List.getElem?_eq_getElem hlt
      have hu := hl _ (List.getElem_mem hlt)
      have htk : l.take (i + 1).toNat = l.take i.toNat ++ [l[i.toNat]] := by
        rw [show (i + 1).toNat = i.toNat + 1 by omega, List.take_add_one, e3]; rfl
      have hnin : l[i.toNat] ∉ l.take i.toNat := by
        have h : (l.take (i + 1).toNat).Nodup := hn.sublist (List.take_sublist _ _)
        rw [htk, List.nodup_append] at h
        exact fun hx => h.2.2 _ hx _ (List.mem_singleton.2 rfl) rfl
      generalize l[i.toNat] = u at e3 hu htk hnin
      have e4 : ile 0 u = true := ile_t hu.1
      have hgl : u.toNat < g.length := by omega
      have e5 : g[u.toNat]? = some g[u.toNat] := List.getElem?_eq_getElem hgl
      have hko := kidsOf_ok hok hu.1
      have hke : kidsOf g u = g[u.toNat].2.2.2.1 := by unfold kidsOf; rw [e5]
      have hul : u.toNat < left.length := by have := hI.ll; omega
      have e6 : left[u.toNat]? = some left[u.toNat] := List.getElem?_eq_getElem hul
      have e7 : ilt u (len left) = true := ilt_t (by have := hI.ll; unfold len; omega)
      have w : IntKind.wrap .i64 (i + 1) = i + 1 := wrap_id (by omega) (by omega)
      have hpl : (l.take i.toNat).length = i.toNat := by rw [List.length_take]; omega
      have hfl : free.length ≤ m.toNat := nd_len hI.fr fun x hx => hl x (List.mem_of_mem_take ((hI.fm x).1 hx).1)
      have r1 : room ((List.length free + List.length (u :: ([] : List Int))) * 9) = true := room_ok (by simp; unfold roomy; omega)
      obtain ⟨ups', q1, q2, q3⟩ := L14_13_spec (t6 := left.set u.toNat ((kidsOf g u).length : Int)) (t8 := free) hm g rt h0 e3 (fun c hc => ⟨by have := (hko.2 c hc).1; omega, (hko.2 c hc).2⟩) (by omega) (kidsOf g u).length (n + 2) ups 0 (Int.le_refl _) (by omega) (by omega) hI.ul (fun K hK => by have := hI.sz K hK; omega)
      simp only [L14_8, e1, e2, e3, e4, e5, e6, e7, w, cond_true, Bool.and_self, Option.bind_some, ← hke]
      rw [show len (kidsOf g u) = ((kidsOf g u).length : Int) from rfl, q1]
      simp only [Option.bind_some, e2, e3, cond_true, r1, w]
      have hleft : ∀ v ∈ l.take (i + 1).toNat, (left.set u.toNat ((kidsOf g u).length : Int))[v.toNat]? = some ((kidsOf g v).length : Int) := by
        intro v hv
        rw [htk, List.mem_append, List.mem_singleton] at hv
        rcases hv with hv | rfl
        · have hv0 := hl v (List.mem_of_mem_take hv)
          have hne : u.toNat ≠ v.toNat := fun e => hnin (by have : u = v := by omega
                                                            rw [this]; exact hv)
          rw [List.getElem?_set_ne hne]
          exact hI.lf v hv
        · exact List.getElem?_set_self hul
      have hup : ∀ (v : Nat) K, ups'[v]? = some K → ∀ x, K.count x = if x ∈ l.take (i + 1).toNat then (kidsOf g x).count (v : Int) else 0 := by
        intro v K hK x
        have hvl : v < ups.length := by have := (List.getElem?_eq_some_iff.1 hK).1; omega
        have h3 := q3 v _ (List.getElem?_eq_getElem hvl)
        rw [h3] at hK
        cases hK
        have h4 := hI.up v _ (List.getElem?_eq_getElem hvl) x
        rw [List.count_append, h4, List.count_replicate, htk]
        simp only [List.mem_append, List.mem_singleton, Int.toNat_zero, List.drop_zero]
        by_cases hxu : x = u
        · subst hxu
          simp [hnin]
        · have : (u == x) = false := by simp; exact fun e => hxu e.symm
          simp [this, hxu]
      have hsz : ∀ K ∈ ups', K.length ≤ 4 * (l.take (i + 1).toNat).length := by
        intro K hK
        obtain ⟨v, hv, rfl⟩ := List.getElem_of_mem hK
        have hvl : v < ups.length := by omega
        have h3 := q3 v _ (List.getElem?_eq_getElem hvl)
        rw [List.getElem?_eq_getElem hv] at h3
        rw [Option.some.inj h3, htk]
        have h4 := hI.sz _ (List.getElem_mem hvl)
        have h5 : ((kidsOf g u).drop (0 : Int).toNat).count (v : Int) ≤ (kidsOf g u).length := Nat.le_trans List.count_le_length (by simp)
        simp only [List.length_append, List.length_replicate, List.length_singleton]
        omega
      cases hz : (len (kidsOf g u) == (0 : Int)) with
      | true =>
        simp only [cond_true]
        have hnil : kidsOf g u = [] := by
          have := eq_of_beq hz
          unfold len at this
          exact List.eq_nil_of_length_eq_zero (by omega)
        refine ih n (i + 1) _ ups' (free ++ [u]) (by omega) (by omega) (by omega) ⟨by rw [List.length_set]; exact hI.ll, by have := hI.ul; omega, hleft, hup, hsz, ?_, fun x => ?_⟩
        · refine List.nodup_append.2 ⟨hI.fr, by simp, fun a ha b hb => ?_⟩
          rw [List.mem_singleton.1 hb]
          exact fun e => hnin (e ▸ ((hI.fm a).1 ha).1)
        · rw [htk, List.mem_append, List.mem_append, List.mem_singleton, hI.fm x]
          constructor
          · rintro (⟨h1, h2⟩ | rfl)
            · exact ⟨.inl h1, h2⟩
            · exact ⟨.inr rfl, hnil⟩
          · rintro ⟨h1 | h1, h2⟩
            · exact .inl ⟨h1, h2⟩
            · exact .inr h1
      | false =>
        simp only [cond_false]
        have hnil : kidsOf g u ≠ [] := fun e => by rw [e] at hz; simp [len] at hz
        refine ih n (i + 1) _ ups' free (by omega) (by omega) (by omega) ⟨by rw [List.length_set]; exact hI.ll, by have := hI.ul; omega, hleft, hup, hsz, hI.fr, fun x => ?_⟩
        rw [htk, List.mem_append, List.mem_singleton, hI.fm x]
        constructor
        · rintro ⟨h1, h2⟩
          exact ⟨.inl h1, h2⟩
        · rintro ⟨h1 | h1, h2⟩
          · exact ⟨h1, h2⟩
          · exact absurd (h1 ▸ h2) hnil
end Go.Proofs.YtoiiimbhfdnomaaDoor
/- The walk that takes nodes away: all are taken. -/
namespace Go.Proofs.YtoiiimbhfdnomaaDoor
open Go Go.Iv Go.Gv
structure WInv (m : Int) (l : List Int) (b : Int → Nat) (K : List Int) (left free gone : List Int) : Prop where
  len : (left.length : Int) = m
  nd : (gone ++ free).Nodup
  io : ∀ u, u ∈ gone ++ free ↔ u ∈ l ∧ left[u.toNat]? = some 0
  lf : ∀ u ∈ l, left[u.toNat]? = some ((b u + K.count u : Nat) : Int)
theorem WInv.fl {m : Int} {l : List Int} {b : Int → Nat} {K left free gone : List Int} (hl : ∀ k ∈ l, 0 ≤ k ∧ k < m) (h : WInv m l b K left free gone) : gone.length + free.length ≤ m.toNat := by
  have := nd_len h.nd fun x hx => hl x ((h.io x).1 hx).1
  simpa using this
theorem L14_24_spec {m : Int} (hm : m ≤ 200) {l t5 K : List Int} {t7 : List (List Int)} {t12 t13 : Int} (hl : ∀ k ∈ l, 0 ≤ k ∧ k < m) (h7 : (t7.length : Int) = m) (h13 : 0 ≤ t13) (hK : t7[t13.toNat]? = some K) (hKl : ∀ u ∈ K, u ∈ l) (hKn : K.length ≤ 5000) (b : Int → Nat) (hb : ∀ u, b u ≤ 1000) (gone : List Int) : ∀ (r n : Nat) (left free : List Int) (t14 : Int), 0 ≤ t14 → t14 + r = K.length → r < n →
    WInv m l b (K.drop t14.toNat) left free gone →
    ∃ left' free', L14_24 n t5 left t7 free t12 t13 t14 = some ((t5, (left', (t7, (free', (t12, ()))))), ()) ∧ WInv m l b [] left' free' gone := by
  intro r
  induction r with
  | zero =>
    intro n left free t14 h0 h1 hn hI
    cases n with
    | zero => omega
    | succ n =>
      refine ⟨left, free, ?_, ?_⟩
      · have e1 : ile 0 t13 = true := ile_t h13
        have e2 : ilt t13 (len t7) = true := ilt_t (by have := (List.getElem?_eq_some_iff.1 hK).1; unfold len; omega)
        have e3 : ilt t14 (len K) = false := ilt_f (by unfold len; omega)
        simp only [L14_24, e1, e2, hK, e3, cond_true, cond_false, Bool.and_self, Option.bind_some, set_sameI hK]
      · rw [List.drop_eq_nil_of_le (by omega)] at hI
        exact hI
  | succ r ih =>
    intro n left free t14 h0 h1 hn hI
    cases n with
    | zero => omega
    | succ n =>
      have e1 : ile 0 t13 = true := ile_t h13
      have e2 : ilt t13 (len t7) = true := ilt_t (by have := (List.getElem?_eq_some_iff.1 hK).1; unfold len; omega)
      have e3 : ilt t14 (len K) = true := ilt_t (by unfold len; omega)
      have e4 : ile 0 t14 = true := ile_t h0
      have hlt : t14.toNat < K.length := by omega
      have e5 : K[t14.toNat]? = some K[t14.toNat] := List.getElem?_eq_getElem hlt
      have hu := hKl _ (List.getElem_mem hlt)
      have hdr : K.drop t14.toNat = K[t14.toNat] :: K.drop (t14 + 1).toNat := by
        rw [List.drop_eq_getElem_cons hlt, show (t14 + 1).toNat = t14.toNat + 1 by omega]
      generalize K[t14.toNat] = u at e5 hu hdr
      rw [hdr] at hI
      have hu0 := hl u hu
      have q1 := hI.lf u hu
      rw [List.count_cons_self] at q1
      have hcl : (K.drop (t14 + 1).toNat).count u ≤ K.length := Nat.le_trans List.count_le_length (by simp)
      have hbu := hb u
      have e6 : ile 0 u = true := ile_t hu0.1
      have hll : len left = m := hI.len
      have e7 : ilt u m = true := ilt_t hu0.2
      have w1 : IntKind.wrap .i64 (((b u + ((K.drop (t14 + 1).toNat).count u + 1) : Nat) : Int) - 1) = ((b u + (K.drop (t14 + 1).toNat).count u : Nat) : Int) := by
        rw [wrap_id (by omega) (by omega)]; omega
      have w2 : IntKind.wrap .i64 (t14 + 1) = t14 + 1 := wrap_id (by omega) (by omega)
      have hul : u.toNat < left.length := by have := hI.len; omega
      have e8 : (left.set u.toNat ((b u + (K.drop (t14 + 1).toNat).count u : Nat) : Int))[u.toNat]? = some ((b u + (K.drop (t14 + 1).toNat).count u : Nat) : Int) := List.getElem?_set_self hul
      have e9 : len (left.set u.toNat ((b u + (K.drop (t14 + 1).toNat).count u : Nat) : Int)) = m := by unfold Go.Gv.len; rw [List.length_set]; exact hI.len
      have hfl := hI.fl hl
      have r1 : room ((List.length free + List.length (u :: ([] : List Int))) * 9) = true := room_ok (by simp; unfold roomy; omega)
      simp only [L14_24, e1, e2, hK, e3, e4, e5, e6, e7, hll, q1, w1, w2, e8, e9, cond_true, Bool.and_self, Option.bind_some, set_sameI hK]
      have hnin : u ∉ gone ++ free := fun h => by
        have := ((hI.io u).1 h).2
        rw [q1] at this
        have := Option.some.inj this
        omega
      have hlf : ∀ x ∈ l, (left.set u.toNat ((b u + (K.drop (t14 + 1).toNat).count u : Nat) : Int))[x.toNat]? = some ((b x + (K.drop (t14 + 1).toNat).count x : Nat) : Int) := by
        intro x hx
        by_cases hxu : x = u
        · subst hxu; exact e8
        · have hx0 := hl x hx
          rw [List.getElem?_set_ne (by omega), hI.lf x hx, List.count_cons_of_ne (fun e => hxu e.symm)]
      cases hz : (((b u + (K.drop (t14 + 1).toNat).count u : Nat) : Int) == (0 : Int)) with
      | true =>
        simp only [cond_true, r1]
        refine ih n _ (free ++ [u]) (t14 + 1) (by omega) (by omega) (by omega) ⟨by rw [List.length_set]; exact hI.len, ?_, fun x => ?_, hlf⟩
        · rw [← List.append_assoc]
          refine List.nodup_append.2 ⟨hI.nd, by simp, fun a ha c hc => ?_⟩
          rw [List.mem_singleton.1 hc]
          exact fun e => hnin (e ▸ ha)
        · rw [← List.append_assoc, List.mem_append, List.mem_singleton, hI.io x]
          by_cases hxu : x = u
          · subst hxu
            have := eq_of_beq hz
            rw [e8, this]
            simp [hu]
          · by_cases hx : x ∈ l
            · have hx0 := hl x hx
              rw [List.getElem?_set_ne (by omega)]
              simp [hxu]
            · simp [hx, hxu]
      | false =>
        simp only [cond_false]
        refine ih n _ free (t14 + 1) (by omega) (by omega) (by omega) ⟨by rw [List.length_set]; exact hI.len, hI.nd, fun x => ?_, hlf⟩
        rw [hI.io x]
        by_cases hxu : x = u
        · subst hxu
          rw [e8, q1]
          have : ¬ ((b x + (K.drop (t14 + 1).toNat).count x : Nat) : Int) = 0 := fun e => by rw [e] at hz; simp at hz
          constructor
          · rintro ⟨_, h⟩; have := Option.some.inj h; omega
          · rintro ⟨_, h⟩; have := Option.some.inj h; omega
        · by_cases hx : x ∈ l
          · have hx0 := hl x hx
            rw [List.getElem?_set_ne (by omega)]
          · simp [hx]
def restOf (g : List Nod) (gone : List Int) (u : Int) : Nat := (kidsOf g u).countP (fun c => !gone.contains c)
theorem restOf_cons (g : List Nod) (gone : List Int) (k : Int) (hk : k ∉ gone) (u : Int) : restOf g gone u = restOf g (gone ++ [k]) u + (kidsOf g u).count k := by
  unfold restOf
  induction kidsOf g u with
  | nil => rfl
  | cons c r ih =>
    rw [List.countP_cons, List.countP_cons, List.count_cons, ih]
    by_cases hck : c = k
    · subst hck
      simp [hk]
      omega
    · have h1 : (c == k) = false := by simp; exact hck
      simp [h1, hck]
      omega
theorem restOf_le (g : List Nod) (gone : List Int) (u : Int) : restOf g gone u ≤ (kidsOf g u).length := List.countP_le_length
theorem L14_19_spec {m : Int} {g : List Nod} (hm : m ≤ 200) (hk4 : ∀ u, 0 ≤ u → (kidsOf g u).length ≤ 4) {l : List Int} (hn : l.Nodup) (hl : ∀ k ∈ l, 0 ≤ k ∧ k < m) {t7 : List (List Int)} (h7 : (t7.length : Int) = m)
    (hup : ∀ (v : Nat) K, t7[v]? = some K → K.length ≤ 5000 ∧ ∀ u, K.count u = if u ∈ l then (kidsOf g u).count (v : Int) else 0) :
    ∀ (r n : Nat) (left free gone : List Int) (t12 : Int), t12 = gone.length → m.toNat ≤ gone.length + r → r + 5010 < n → WInv m l (fun u => if u ∈ l then restOf g gone u else 0) [] left free gone →
    ∃ left' gone', L14_19 n l left t7 free t12 = some ((l, ((gone'.length : Int), ())), ()) ∧ WInv m l (fun u => if u ∈ l then restOf g gone' u else 0) [] left' [] gone' := by
  intro r
  induction r with
  | zero =>
    intro n left free gone t12 ht hr hn' hI
    cases n with
    | zero => omega
    | succ n =>
      have := hI.fl hl
      have : free = [] := List.eq_nil_of_length_eq_zero (by omega)
      subst this
      refine ⟨left, gone, ?_, hI⟩
      simp only [L14_19, show ilt 0 (Go.Gv.len ([] : List Int)) = false from by decide, cond_false, ht]
  | succ r ih =>
    intro n left free gone t12 ht hr hn' hI
    cases n with
    | zero => omega
    | succ n =>
      rcases List.eq_nil_or_concat free with rfl | ⟨fr, k, rfl⟩
      · refine ⟨left, gone, ?_, hI⟩
        simp only [L14_19, show ilt 0 (Go.Gv.len ([] : List Int)) = false from by decide, cond_false, ht]
      · simp only [List.concat_eq_append] at hI ⊢
        have hfl := hI.fl hl
        simp only [List.length_append, List.length_singleton] at hfl
        have hln : Go.Gv.len (fr ++ [k]) = (fr.length : Int) + 1 := by unfold Go.Gv.len; simp
        have w : IntKind.wrap .i64 ((fr.length : Int) + 1 - 1) = (fr.length : Int) := by rw [Int.add_sub_cancel]; exact wrap_id (by omega) (by omega)
        have w2 : IntKind.wrap .i64 (t12 + 1) = t12 + 1 := wrap_id (by omega) (by omega)
        have e1 : ilt 0 ((fr.length : Int) + 1) = true := ilt_t (by omega)
        have e2 : ile 0 (fr.length : Int) = true := ile_t (by omega)
        have e3 : ilt (fr.length : Int) ((fr.length : Int) + 1) = true := ilt_t (by omega)
        have e4 : (fr ++ [k])[fr.length]? = some k := by simp
        have e5 : ile (fr.length : Int) ((fr.length : Int) + 1) = true := ile_t (by omega)
        have tk : List.take (fr.length - 0) (List.drop 0 (fr ++ [k])) = fr := by simp
        simp only [L14_19, hln, w, w2, e1, e2, e3, e4, e5, tk, cond_true, Bool.and_self, Option.bind_some, Int.toNat_natCast]
        have hkin := (hI.io k).1 (by simp)
        have hk0 := hl k hkin.1
        have hkl : k.toNat < t7.length := by omega
        have hK : t7[k.toNat]? = some t7[k.toNat] := List.getElem?_eq_getElem hkl
        have hKu := hup _ _ hK
        generalize t7[k.toNat] = K at hK hKu
        rw [Int.toNat_of_nonneg hk0.1] at hKu
        have hkg : k ∉ gone := fun h => by
          have := (List.nodup_append.1 hI.nd).2.2 k h k (by simp)
          exact this rfl
        have hKl : ∀ u ∈ K, u ∈ l := fun u hu => by
          have h1 := List.count_pos_iff.2 hu
          rw [hKu.2 u] at h1
          split at h1
          · assumption
          · omega
        have hI' : WInv m l (fun u => if u ∈ l then restOf g (gone ++ [k]) u else 0) (K.drop (0 : Int).toNat) left fr (gone ++ [k]) := by
          have hp : (gone ++ [k] ++ fr).Perm (gone ++ (fr ++ [k])) := by
            rw [List.append_assoc]
            exact List.Perm.append_left _ List.perm_append_comm
          refine ⟨hI.len, hp.nodup_iff.2 hI.nd, fun u => ?_, fun u hu => ?_⟩
          · rw [hp.mem_iff]; exact hI.io u
          · rw [hI.lf u hu]
            simp only [Int.toNat_zero, List.drop_zero, hu, if_true, List.count_nil, hKu.2 u]
            rw [restOf_cons g gone k hkg u]
            rfl
        obtain ⟨left', free', q1, q2⟩ := L14_24_spec (t5 := l) (t12 := t12 + 1) (t13 := k) hm hl h7 hk0.1 hK hKl hKu.1 (fun u => if u ∈ l then restOf g (gone ++ [k]) u else 0) (fun u => by
            show (if u ∈ l then restOf g (gone ++ [k]) u else 0) ≤ 1000
            split
            · rename_i h
              have := restOf_le g (gone ++ [k]) u
              have := hk4 u (hl u h).1
              omega
            · omega) (gone ++ [k]) K.length (n + 2) left fr 0 (Int.le_refl _) (by omega) (by omega) hI'
        rw [q1]
        simp only [Option.bind_some]
        obtain ⟨l2, g2, p1, p2⟩ := ih n left' free' (gone ++ [k]) (t12 + 1) (by simp; omega) (by simp; omega) (by omega) q2
        exact ⟨l2, g2, p1, p2⟩
theorem all_gone {m : Int} {g : List Nod} {l left gone : List Int} (hm : m ≤ 200) (hkid : ∀ u, 0 ≤ u → ∀ c ∈ kidsOf g u, u < c ∧ c < m) (hl : ∀ k ∈ l, 0 ≤ k ∧ k < m) (hcl : ∀ k ∈ l, ∀ c ∈ kidsOf g k, c ∈ l)
    (hI : WInv m l (fun u => if u ∈ l then restOf g gone u else 0) [] left [] gone) : ∀ (r : Nat) (u : Int), u ∈ l → m - u ≤ r → u ∈ gone := by
  intro r
  induction r with
  | zero =>
    intro u hu hr
    have := hl u hu
    omega
  | succ r ih =>
    intro u hu hr
    have hu0 := hl u hu
    have h0 : restOf g gone u = 0 := by
      unfold restOf
      rw [List.countP_eq_zero]
      intro c hc
      have h1 := hkid u hu0.1 c hc
      have := ih c (hcl u hu c hc) (by omega)
      simp [this]
    have h1 := hI.lf u hu
    simp only [hu, if_true, h0, List.count_nil, Nat.add_zero] at h1
    have h2 := (hI.io u).2 ⟨hu, h1⟩
    simpa using h2
theorem cyclic_spec (n : Nat) (hn : 6000 ≤ n) (seed m : Int) : cyclic n (graphM seed m) 0 = some (false, ()) := by
  have hs := sizeM_ok m
  obtain ⟨hg, hok⟩ := graphM_ok seed m
  have hlen : len (graphM seed m).1 = sizeM m := hg
  obtain ⟨l, h1, hnd, hl, hcl⟩ := reach_spec n (by omega) seed m
  have hI0 : UInv (sizeM m) (graphM seed m).1 (l.take (0 : Int).toNat) (List.replicate (sizeM m).toNat 0) (List.replicate (sizeM m).toNat []) [] := by
    refine ⟨by rw [List.length_replicate]; omega, by rw [List.length_replicate]; omega, fun u hu => (by cases hu), fun v K hK u => ?_, fun K hK => ?_, List.nodup_nil, fun u => ?_⟩
    · rw [List.getElem?_replicate] at hK
      split at hK
      · cases hK; rfl
      · cases hK
    · rw [List.eq_of_mem_replicate hK]; exact Nat.zero_le _
    · simp
  have hll := nd_len hnd hl
  obtain ⟨left, ups, free, q1, q2⟩ := L14_8_spec (graphM seed m).2 hs.2 hg hok hnd hl l.length (n + 8) 0 _ _ _ (Int.le_refl _) (by omega) (by omega) hI0
  have hW : WInv (sizeM m) l (fun u => if u ∈ l then restOf (graphM seed m).1 [] u else 0) [] left free [] := by
    refine ⟨q2.ll, q2.fr, fun u => ?_, fun u hu => ?_⟩
    · rw [List.nil_append, q2.fm u]
      constructor
      · rintro ⟨h3, h4⟩
        exact ⟨h3, by rw [q2.lf u h3, h4]; rfl⟩
      · rintro ⟨h3, h4⟩
        rw [q2.lf u h3] at h4
        exact ⟨h3, List.eq_nil_of_length_eq_zero (by have := Option.some.inj h4; omega)⟩
    · rw [q2.lf u hu]
      have : restOf (graphM seed m).1 [] u = (kidsOf (graphM seed m).1 u).length := by
        unfold restOf
        rw [List.countP_eq_length]
        intro c _; rfl
      simp [hu, this]
  obtain ⟨left', gone, p1, p2⟩ := L14_19_spec hs.2 (fun u hu => (kidsOf_ok hok hu).1) hnd hl q2.ul (fun v K hK => ⟨by
      have := q2.sz K (List.mem_of_getElem? hK); omega, q2.up v K hK⟩) (sizeM m).toNat (n + 8) left free [] 0 rfl (by simp) (by omega) hW
  have hall : l.length ≤ gone.length := len_le_of_sub hnd fun u hu => all_gone hs.2 (fun u hu => (kidsOf_ok hok hu).2) hl hcl p2 (sizeM m).toNat u hu (by have := hl u hu; omega)
  have e1 : ile (sizeM m) (sizeM m) = true := ile_t (Int.le_refl _)
  have e2 : ile (sizeM m * 9) 1099511627776 = true := ile_t (by omega)
  have e3 : ile (sizeM m * 25) 1099511627776 = true := ile_t (by omega)
  have e4 : ilt (gone.length : Int) (len l) = false := ilt_f (by unfold len; omega)
  unfold cyclic
  rw [show ((graphM seed m).1, (graphM seed m).2) = graphM seed m from rfl, may_spec (n + 1) (by omega)]
  simp only [Option.bind_some, Bool.not_true, cond_false, h1, hlen, e1, e2, e3, Bool.and_self, cond_true, q1, p1, e4]
end Go.Proofs.YtoiiimbhfdnomaaDoor
/- GenGraphs: what is computed is true. -/
namespace Go.Proofs.YtoiiimbhfdnomaaDoor
open Go Go.Iv Go.Gv
theorem graphs_spec (n : Nat) (hn : 7000 ≤ n) (seed m : Int) (_w0 : Sh.wf (.int .i64) seed) (_w1 : Sh.wf (.int .i64) m) : graphs n seed m = some (true, ()) := by
  have hs := sizeM_ok m
  obtain ⟨hg, hok⟩ := graphM_ok seed m
  have hk : ∀ x ∈ (graphM seed m).1, x.2.2.2.1.length ≤ 10 := fun x hx => by
    obtain ⟨j, hj, rfl⟩ := List.getElem_of_mem hx
    have := okNode_len (hok j _ (List.getElem?_eq_getElem hj))
    omega
  have ha : alive (n + 6) = some (true, ()) := rfl
  unfold graphs
  rw [ha, gen_spec (n + 6) (by omega), genR_spec (n + 8) (by omega)]
  simp only [Option.bind_some, cond_true]
  rw [sameGraph_refl (n + 6) (graphM seed m).1 (graphM seed m).2 (by omega) (by show ([0] : List Int).length ≤ 10; simp) hk (by omega)]
  rw [show ((graphM seed m).1, (graphM seed m).2) = graphM seed m from rfl, right_spec (n + 3) (by omega), cyclic_spec n (by omega)]
  rfl
end Go.Proofs.YtoiiimbhfdnomaaDoor
/- Functions whose answers are told: by the kit's contracts. -/
namespace Go.Proofs.YtoiiimbhfdnomaaDoor
open Go Go.Iv Go.Gv Go.Shelf Go.Proofs
def lays171_ren : Go.Shelf.Ren := ⟨fun | 171 => 23 | 243 => 29 | 246 => 33 | 283 => 38 | 284 => 39 | 285 => 40 | 286 => 41 | 129 => 44 | 317 => 43 | 318 => 45 | 319 => 46 | 320 => 47 | 337 => 49 | 338 => 50 | n => n, fun | 3 => 3 | 9 => 9 | 2 => 2 | 4 => 4 | 171 => 65 | 0 => 0 | 53 => 66 | 37 => 63 | 5 => 5 | 173 => 69 | 212 => 74 | 51 => 75 | 20 => 20 | 213 => 76 | 46 => 44 | 232 => 79 | 233 => 80 | n => n, fun | 17 => 0 | 18 => 1 | 19 => 2 | n => n⟩
theorem lays171 : Go.Proofs.LaysM.n171 Tryd.prog lays171_ren := {
  mixed := by kernel_rfl
  f129 := Tryd.func44.trans (congrArg some (by kernel_rfl))
  f171 := Tryd.func23.trans (congrArg some (by kernel_rfl))
  f243 := Tryd.func29.trans (congrArg some (by kernel_rfl))
  f246 := Tryd.func33.trans (congrArg some (by kernel_rfl))
  f283 := Tryd.func38.trans (congrArg some (by kernel_rfl))
  f284 := Tryd.func39.trans (congrArg some (by kernel_rfl))
  f285 := Tryd.func40.trans (congrArg some (by kernel_rfl))
  f286 := Tryd.func41.trans (congrArg some (by kernel_rfl))
  f317 := Tryd.func43.trans (congrArg some (by kernel_rfl))
  f318 := Tryd.func45.trans (congrArg some (by kernel_rfl))
  f319 := Tryd.func46.trans (congrArg some (by kernel_rfl))
  f320 := Tryd.func47.trans (congrArg some (by kernel_rfl))
  f337 := Tryd.func49.trans (congrArg some (by kernel_rfl))
  f338 := Tryd.func50.trans (congrArg some (by kernel_rfl))
  t0 := Tryd.underlying0
  a0 := Tryd.isAgg0
  z0 := Tryd.sizeOf0
  v0 := Tryd.zeroValue0
  t2 := Tryd.underlying2
  a2 := Tryd.isAgg2
  z2 := Tryd.sizeOf2
  v2 := Tryd.zeroValue2
  t3 := Tryd.underlying3
  a3 := Tryd.isAgg3
  z3 := Tryd.sizeOf3
  v3 := Tryd.zeroValue3
  t4 := Tryd.underlying4
  a4 := Tryd.isAgg4
  z4 := Tryd.sizeOf4
  v4 := Tryd.zeroValue4
  t5 := Tryd.underlying5
  a5 := Tryd.isAgg5
  z5 := Tryd.sizeOf5
  v5 := Tryd.zeroValue5
  t9 := Tryd.underlying9
  a9 := Tryd.isAgg9
  z9 := Tryd.sizeOf9
  v9 := Tryd.zeroValue9
  t20 := Tryd.underlying20
  a20 := Tryd.isAgg20
  z20 := Tryd.sizeOf20
  v20 := Tryd.zeroValue20
  t37 := Tryd.underlying63
  a37 := Tryd.isAgg63
  z37 := Tryd.sizeOf63
  v37 := Tryd.zeroValue63
  t46 := Tryd.underlying44
  a46 := Tryd.isAgg44
  z46 := Tryd.sizeOf44
  v46 := Tryd.zeroValue44
  t51 := Tryd.underlying75
  a51 := Tryd.isAgg75
  z51 := Tryd.sizeOf75
  v51 := Tryd.zeroValue75
  t53 := Tryd.underlying66
  a53 := Tryd.isAgg66
  z53 := Tryd.sizeOf66
  v53 := Tryd.zeroValue66
  t171 := Tryd.underlying65
  a171 := Tryd.isAgg65
  z171 := Tryd.sizeOf65
  v171 := Tryd.zeroValue65
  t173 := Tryd.underlying69
  a173 := Tryd.isAgg69
  z173 := Tryd.sizeOf69
  v173 := Tryd.zeroValue69
  t212 := Tryd.underlying74
  a212 := Tryd.isAgg74
  z212 := Tryd.sizeOf74
  v212 := Tryd.zeroValue74
  t213 := Tryd.underlying76
  a213 := Tryd.isAgg76
  z213 := Tryd.sizeOf76
  t232 := Tryd.underlying79
  a232 := Tryd.isAgg79
  z232 := Tryd.sizeOf79
  v232 := Tryd.zeroValue79
  t233 := Tryd.underlying80
  a233 := Tryd.isAgg80
  z233 := Tryd.sizeOf80
  v233 := Tryd.zeroValue80
  g17 := by kernel_rfl
  g18 := by kernel_rfl
  g19 := by kernel_rfl
  i0 := by kernel_rfl
  i2 := by kernel_rfl
  i3 := by kernel_rfl
  i4 := by kernel_rfl
  i5 := by kernel_rfl
  i9 := by kernel_rfl
  i20 := by kernel_rfl
  i37 := by kernel_rfl
  i46 := by kernel_rfl
  i51 := by kernel_rfl
  i53 := by kernel_rfl
  i171 := by kernel_rfl
  i173 := by kernel_rfl
  i212 := by kernel_rfl
  i232 := by kernel_rfl
  i233 := by kernel_rfl
  m17 := by kernel_rfl
  m18 := by kernel_rfl
  m19 := by kernel_rfl
}
theorem sp23 : Spec1 Tryd.prog 1 23 0 := spec_itoa ⟨_, _, Tryd.func23, rfl⟩ (by kernel_rfl) fun n w h0 h1 ht => Go.Proofs.Any.strconv_Itoa lays171 n h0 h1 w ht
theorem specs_ok : SpecOK Tryd.prog (gspec hint) := gspec_ok (show SpecsOK Tryd.prog specL from ⟨sp23, trivial⟩)
end Go.Proofs.YtoiiimbhfdnomaaDoor
