/- Plain functions for the program's. -/
import Derived.Test.YtnddpppljnjmcaaGreatDoorGs
import Derived.Test.YtnddpppljnjmcaaGreatDoorProg
import Derived.KernelRfl
set_option linter.unusedSimpArgs false
set_option linter.unusedVariables false
namespace Go.Proofs.YtnddpppljnjmcaaGreatDoor
open Go Go.Iv Go.Gv
set_option maxRecDepth 100000
set_option linter.unusedVariables false
noncomputable def rightP (_n : Nat) (c : Int) : Option (Bool × Unit) :=
 Option.bind (bif (ile (0 : Int) c) then
   bif (ile c (1114111 : Int)) then
    bif (ilt c (55296 : Int)) then
     some true
    else
    some (ilt (57343 : Int) c)
   else
   some false
  else
  some false) fun b1 =>
 some (b1, ())
noncomputable def rightP_it : FnIt := ⟨48, [(false, (.int .i64))], [(false, .bool)], 0, fun n x => rightP n x.1⟩
theorem rightP_ok (n : Nat) : FnOK Tryz.prog hint shT rightP_it n :=
  FnOK.of (hk := fun β => (Known.mk [] []).hk β) (sh := shT) (fun m _ => KnownOK.hook KnownOK.nil m) (fun x => by kernel_rfl)
noncomputable def L37_23_Xexit1 : Tm := ⟨[(5, .one (.int .i64)), (6, .one (.int .i64)), (7, .one (.int .i64))], [], 64, 64, 1000⟩
noncomputable def L37_23_Xret : Tm := ⟨[(2, .one (.int .i64)), (3, .one (.int .i64))], [], 64, 64, 1000⟩
noncomputable def L37_23_T : Tm := ⟨[(0, .one (.lst .byte)), (5, .one (.int .i64)), (6, .one (.int .i64)), (7, .one (.int .i64)), (8, .one (.int .i64))], [], 64, 64, 1000⟩
noncomputable def L37_23 : Nat → (List UInt8) → Int → Int → Int → Int → Option (((Int × (Int × (Int × Unit))) × Unit) ⊕ ((Int × (Int × Unit)) × Unit))
 | 0, _, _, _, _, _ => none
 | n + 1, t0, t5, t6, t7, t8 =>
  bif (ilt t8 t5) then
   bif (ile (0 : Int) t8) then
   Option.bind (t0[(Int.toNat t8)]?) fun x9 =>
   Option.bind (bif (ilt (IntKind.wrap .i64 (ub x9)) (128 : Int)) then
     some true
    else
    some (ilt (191 : Int) (IntKind.wrap .i64 (ub x9)))) fun b11 =>
   bif b11 then
    some (.inr (((0 : Int), ((0 : Int), ())), ()))
   else
   L37_23 n t0 t5 t6 (IntKind.wrap .i64 ((IntKind.wrap .i64 (t7 * (64 : Int))) + (andI Go.IntKind.i64 (IntKind.wrap .i64 (ub x9)) (63 : Int)))) (IntKind.wrap .i64 (t8 + (1 : Int)))
   else none
  else
  some (.inl ((t5, (t6, (t7, ()))), ()))
noncomputable def L37_23_it : LoopIt := ⟨37, 23, none, L37_23_T, [(.exit 1, L37_23_Xexit1), (.ret, L37_23_Xret)], 0, fun n x => L37_23 n x.1.1 x.1.2.1 x.1.2.2.1 x.1.2.2.2.1 x.1.2.2.2.2.1⟩
theorem L37_23_Xexit1_ok : L37_23_Xexit1.ok Tryz.prog hint := by
  intro p hp
  cases hp
theorem L37_23_Xret_ok : L37_23_Xret.ok Tryz.prog hint := by
  intro p hp
  cases hp
theorem L37_23_T_ok : L37_23_T.ok Tryz.prog hint := by
  intro p hp
  cases hp
theorem L37_23_ok : ∀ n, LoopOK Tryz.prog hint shT L37_23_it n :=
  LoopOK.of (hk := fun β => (Known.mk [] []).hk β) (sh := shT) (OneLoop.of (by kernel_rfl)) L37_23_T_ok ⟨⟨L37_23_Xexit1_ok, Nat.le_refl _, Nat.le_refl _⟩, ⟨L37_23_Xret_ok, Nat.le_refl _, Nat.le_refl _⟩, trivial⟩ (fun m => KnownOK.hook KnownOK.nil m)
    (fun _ => by kernel_rfl) (fun m x => by kernel_rfl)
noncomputable def pointR (n : Nat) (b : List UInt8) : Option (Int × (Int × Unit)) :=
 Option.bind (b[0]?) fun x0 =>
 bif (ilt (IntKind.wrap .i64 (ub x0)) (128 : Int)) then
  some ((IntKind.wrap .i64 (ub x0)), (1 : Int), ())
 else
 Option.bind (bif (ile (194 : Int) (IntKind.wrap .i64 (ub x0))) then
   some (ilt (IntKind.wrap .i64 (ub x0)) (224 : Int))
  else
  some false) fun b2 =>
 bif b2 then
  bif (ilt (len b) (2 : Int)) then
   some ((0 : Int), (0 : Int), ())
  else
  Option.bind (L37_23 (n + 1) b (2 : Int) (128 : Int) (andI Go.IntKind.i64 (IntKind.wrap .i64 (ub x0)) (31 : Int)) (1 : Int)) fun y12 =>
  match y12 with
   | .inl y13 =>
    bif (ilt y13.1.2.2.1 y13.1.2.1) then
     some ((0 : Int), (0 : Int), ())
    else
    Option.bind (rightP n y13.1.2.2.1) fun y15 =>
    bif (!y15.1) then
     some ((0 : Int), (0 : Int), ())
    else
    some (y13.1.2.2.1, y13.1.1, ())
   | .inr y14 =>
    some (y14.1.1, y14.1.2.1, ())
 else
 Option.bind (bif (ile (224 : Int) (IntKind.wrap .i64 (ub x0))) then
   some (ilt (IntKind.wrap .i64 (ub x0)) (240 : Int))
  else
  some false) fun b17 =>
 bif b17 then
  bif (ilt (len b) (3 : Int)) then
   some ((0 : Int), (0 : Int), ())
  else
  Option.bind (L37_23 (n + 1) b (3 : Int) (2048 : Int) (andI Go.IntKind.i64 (IntKind.wrap .i64 (ub x0)) (15 : Int)) (1 : Int)) fun y18 =>
  match y18 with
   | .inl y19 =>
    bif (ilt y19.1.2.2.1 y19.1.2.1) then
     some ((0 : Int), (0 : Int), ())
    else
    Option.bind (rightP n y19.1.2.2.1) fun y21 =>
    bif (!y21.1) then
     some ((0 : Int), (0 : Int), ())
    else
    some (y19.1.2.2.1, y19.1.1, ())
   | .inr y20 =>
    some (y20.1.1, y20.1.2.1, ())
 else
 Option.bind (bif (ile (240 : Int) (IntKind.wrap .i64 (ub x0))) then
   some (ilt (IntKind.wrap .i64 (ub x0)) (245 : Int))
  else
  some false) fun b23 =>
 bif b23 then
  bif (ilt (len b) (4 : Int)) then
   some ((0 : Int), (0 : Int), ())
  else
  Option.bind (L37_23 (n + 1) b (4 : Int) (65536 : Int) (andI Go.IntKind.i64 (IntKind.wrap .i64 (ub x0)) (7 : Int)) (1 : Int)) fun y24 =>
  match y24 with
   | .inl y25 =>
    bif (ilt y25.1.2.2.1 y25.1.2.1) then
     some ((0 : Int), (0 : Int), ())
    else
    Option.bind (rightP n y25.1.2.2.1) fun y27 =>
    bif (!y27.1) then
     some ((0 : Int), (0 : Int), ())
    else
    some (y25.1.2.2.1, y25.1.1, ())
   | .inr y26 =>
    some (y26.1.1, y26.1.2.1, ())
 else
 some ((0 : Int), (0 : Int), ())
noncomputable def pointR_it : FnIt := ⟨37, [(false, (.slc .byte))], [(false, (.int .i64)), (false, (.int .i64))], 1, fun n x => pointR n x.1⟩
theorem pointR_ok (n : Nat) : FnOK Tryz.prog hint shT pointR_it n :=
  FnOK.of (hk := fun β => (Known.mk [rightP_it] [L37_23_it]).hk β) (sh := shT) (fun m _ => KnownOK.hook ((KnownOK.nil.loop L37_23_ok L37_23_T_ok).fn rightP_ok) m) (fun x => by kernel_rfl)
noncomputable def L25_3_Xexit0 : Tm := ⟨[(4, .one (.all 64 3 (.int .i64) true))], [], 64, 65, 1000⟩
noncomputable def L25_3_Xret : Tm := ⟨[(2, .one (.fix (TV.raw (Go.Value.slice (Option.none) 0 0)))), (3, .one (.bool))], [], 64, 64, 1000⟩
noncomputable def L25_3_T : Tm := ⟨[(0, .one (.lst .byte)), (4, .one (.all 64 3 (.int .i64) true)), (5, .one (.int .i64))], [], 64, 65, 1000⟩
noncomputable def L25_3 : Nat → (List UInt8) → (List Int) → Int → Option ((((List Int) × Unit) × Unit) ⊕ ((Unit × (Bool × Unit)) × Unit))
 | 0, _, _, _ => none
 | n + 1, t0, t4, t5 =>
  bif (ilt t5 (len t0)) then
   bif ((ile (0 : Int) t5) && (ile t5 (len t0))) then
   Option.bind (pointR (n + 1) (List.take ((List.length t0) - (Int.toNat t5)) (List.drop (Int.toNat t5) t0))) fun y3 =>
   bif (y3.2.1 == (0 : Int)) then
    some (.inr (((), (false, ())), ()))
   else
   bif (room (((List.length t4) + (List.length (y3.1 :: ([] : List Int)))) * 9)) then
   L25_3 n t0 (t4 ++ (y3.1 :: ([] : List Int))) (IntKind.wrap .i64 (t5 + y3.2.1))
   else none
   else none
  else
  some (.inl ((t4, ()), ()))
noncomputable def L25_3_it : LoopIt := ⟨25, 3, none, L25_3_T, [(.exit 0, L25_3_Xexit0), (.ret, L25_3_Xret)], 2, fun n x => L25_3 n x.1.1 x.1.2.1 x.1.2.2.1⟩
theorem L25_3_Xexit0_ok : L25_3_Xexit0.ok Tryz.prog hint := by
  intro p hp
  cases hp
theorem L25_3_Xret_ok : L25_3_Xret.ok Tryz.prog hint := by
  intro p hp
  cases hp
theorem L25_3_T_ok : L25_3_T.ok Tryz.prog hint := by
  intro p hp
  cases hp
theorem L25_3_ok : ∀ n, LoopOK Tryz.prog hint shT L25_3_it n :=
  LoopOK.of (hk := fun β => (Known.mk [pointR_it] []).hk β) (sh := shT) (OneLoop.of (by kernel_rfl)) L25_3_T_ok ⟨⟨L25_3_Xexit0_ok, Nat.le_refl _, Nat.le_refl _⟩, ⟨L25_3_Xret_ok, Nat.le_refl _, Nat.le_refl _⟩, trivial⟩ (fun m => KnownOK.hook (KnownOK.nil.fn pointR_ok) m)
    (fun _ => by kernel_rfl) (fun m x => by kernel_rfl)
noncomputable def smallR (n : Nat) (b : List UInt8) : Option ((List Int) × (Bool × Unit)) :=
 Option.bind (L25_3 n b ([] : List Int) (0 : Int)) fun y4 =>
 match y4 with
  | .inl y5 =>
   some (y5.1.1, true, ())
  | .inr y6 =>
   some (([] : List Int), y6.1.2.1, ())
noncomputable def smallR_it : FnIt := ⟨25, [(false, (.slc .byte))], [(false, (.slc (.int .i64))), (false, .bool)], 2, fun n x => smallR n x.1⟩
theorem smallR_ok (n : Nat) : FnOK Tryz.prog hint shT smallR_it n :=
  FnOK.of (hk := fun β => (Known.mk [] [L25_3_it]).hk β) (sh := shT) (fun m _ => KnownOK.hook (KnownOK.nil.loop L25_3_ok L25_3_T_ok) m) (fun x => by kernel_rfl)
noncomputable def textP (n : Nat) (s : List UInt8) : Option ((List Int) × (Bool × Unit)) :=
 Option.bind (smallR n s) fun y0 =>
 some (y0.1, y0.2.1, ())
noncomputable def textP_it : FnIt := ⟨18, [(false, .str)], [(false, (.slc (.int .i64))), (false, .bool)], 3, fun n x => textP n x.1⟩
theorem textP_ok (n : Nat) : FnOK Tryz.prog hint shT textP_it n :=
  FnOK.of (hk := fun β => (Known.mk [smallR_it] []).hk β) (sh := shT) (fun m _ => KnownOK.hook (KnownOK.nil.fn smallR_ok) m) (fun x => by kernel_rfl)
noncomputable def wordR (_n : Nat) (c : Int) : Option (Bool × Unit) :=
 Option.bind (bif (ile (48 : Int) c) then
   bif (ile c (57 : Int)) then
    some true
   else
   bif (ile (97 : Int) c) then
    bif (ile c (122 : Int)) then
     some true
    else
    bif (ile (65 : Int) c) then
     bif (ile c (90 : Int)) then
      some true
     else
     some (c == (45 : Int))
    else
    some (c == (45 : Int))
   else
   bif (ile (65 : Int) c) then
    bif (ile c (90 : Int)) then
     some true
    else
    some (c == (45 : Int))
   else
   some (c == (45 : Int))
  else
  bif (ile (97 : Int) c) then
   bif (ile c (122 : Int)) then
    some true
   else
   bif (ile (65 : Int) c) then
    bif (ile c (90 : Int)) then
     some true
    else
    some (c == (45 : Int))
   else
   some (c == (45 : Int))
  else
  bif (ile (65 : Int) c) then
   bif (ile c (90 : Int)) then
    some true
   else
   some (c == (45 : Int))
  else
  some (c == (45 : Int))) fun b1 =>
 some (b1, ())
noncomputable def wordR_it : FnIt := ⟨65, [(false, (.int .i64))], [(false, .bool)], 0, fun n x => wordR n x.1⟩
theorem wordR_ok (n : Nat) : FnOK Tryz.prog hint shT wordR_it n :=
  FnOK.of (hk := fun β => (Known.mk [] []).hk β) (sh := shT) (fun m _ => KnownOK.hook KnownOK.nil m) (fun x => by kernel_rfl)
noncomputable def hexR (_n : Nat) (c : Int) : Option (Int × Unit) :=
 Option.bind (bif (ile (48 : Int) c) then
   some (ile c (57 : Int))
  else
  some false) fun b1 =>
 bif b1 then
  some ((IntKind.wrap .i64 (c - (48 : Int))), ())
 else
 Option.bind (bif (ile (97 : Int) c) then
   some (ile c (102 : Int))
  else
  some false) fun b3 =>
 bif b3 then
  some ((IntKind.wrap .i64 ((IntKind.wrap .i64 (c - (97 : Int))) + (10 : Int))), ())
 else
 Option.bind (bif (ile (65 : Int) c) then
   some (ile c (70 : Int))
  else
  some false) fun b5 =>
 bif b5 then
  some ((IntKind.wrap .i64 ((IntKind.wrap .i64 (c - (65 : Int))) + (10 : Int))), ())
 else
 some ((-(1 : Int)), ())
noncomputable def hexR_it : FnIt := ⟨67, [(false, (.int .i64))], [(false, (.int .i64))], 0, fun n x => hexR n x.1⟩
theorem hexR_ok (n : Nat) : FnOK Tryz.prog hint shT hexR_it n :=
  FnOK.of (hk := fun β => (Known.mk [] []).hk β) (sh := shT) (fun m _ => KnownOK.hook KnownOK.nil m) (fun x => by kernel_rfl)
noncomputable def L66_2_Xexit0 : Tm := ⟨[], [], 64, 64, 1000⟩
noncomputable def L66_2_Xret : Tm := ⟨[(4, .one (.bool))], [], 64, 64, 1000⟩
noncomputable def L66_2_T : Tm := ⟨[(0, .one (.str)), (1, .one (.int .i64)), (5, .one (.int .i64))], [], 64, 64, 1000⟩
noncomputable def L66_2 : Nat → (List UInt8) → Int → Int → Option ((Unit × Unit) ⊕ ((Bool × Unit) × Unit))
 | 0, _, _, _ => none
 | n + 1, t0, t1, t5 =>
  bif (ilt t5 (len t0)) then
   bif (ile (0 : Int) t5) then
   Option.bind (t0[(Int.toNat t5)]?) fun x2 =>
   bif ((IntKind.wrap .i64 (ub x2)) == t1) then
    some (.inr ((true, ()), ()))
   else
   L66_2 n t0 t1 (IntKind.wrap .i64 (t5 + (1 : Int)))
   else none
  else
  some (.inl ((), ()))
noncomputable def L66_2_it : LoopIt := ⟨66, 2, none, L66_2_T, [(.exit 0, L66_2_Xexit0), (.ret, L66_2_Xret)], 0, fun n x => L66_2 n x.1.1 x.1.2.1 x.1.2.2.1⟩
theorem L66_2_Xexit0_ok : L66_2_Xexit0.ok Tryz.prog hint := by
  intro p hp
  cases hp
theorem L66_2_Xret_ok : L66_2_Xret.ok Tryz.prog hint := by
  intro p hp
  cases hp
theorem L66_2_T_ok : L66_2_T.ok Tryz.prog hint := by
  intro p hp
  cases hp
theorem L66_2_ok : ∀ n, LoopOK Tryz.prog hint shT L66_2_it n :=
  LoopOK.of (hk := fun β => (Known.mk [] []).hk β) (sh := shT) (OneLoop.of (by kernel_rfl)) L66_2_T_ok ⟨⟨L66_2_Xexit0_ok, Nat.le_refl _, Nat.le_refl _⟩, ⟨L66_2_Xret_ok, Nat.le_refl _, Nat.le_refl _⟩, trivial⟩ (fun m => KnownOK.hook KnownOK.nil m)
    (fun _ => by kernel_rfl) (fun m x => by kernel_rfl)
noncomputable def amongR (n : Nat) (s : List UInt8) (c : Int) : Option (Bool × Unit) :=
 Option.bind (L66_2 (n + 1) s c (0 : Int)) fun y3 =>
 match y3 with
  | .inl _ =>
   some (false, ())
  | .inr y5 =>
   some (y5.1.1, ())
noncomputable def amongR_it : FnIt := ⟨66, [(false, .str), (false, (.int .i64))], [(false, .bool)], 1, fun n x => amongR n x.1 x.2.1⟩
theorem amongR_ok (n : Nat) : FnOK Tryz.prog hint shT amongR_it n :=
  FnOK.of (hk := fun β => (Known.mk [] [L66_2_it]).hk β) (sh := shT) (fun m _ => KnownOK.hook (KnownOK.nil.loop L66_2_ok L66_2_T_ok) m) (fun x => by kernel_rfl)
noncomputable def uriR (n : Nat) (l : List Int) (i : Int) : Option (Int × Unit) :=
 bif (ile (len l) i) then
  some ((0 : Int), ())
 else
 bif (ile (0 : Int) i) then
 Option.bind (l[(Int.toNat i)]?) fun x0 =>
 Option.bind (wordR (n + 1) x0) fun y1 =>
 bif y1.1 then
  some ((1 : Int), ())
 else
 Option.bind (amongR n ([(35 : UInt8), (59 : UInt8), (47 : UInt8), (63 : UInt8), (58 : UInt8), (64 : UInt8), (38 : UInt8), (61 : UInt8), (43 : UInt8), (36 : UInt8), (44 : UInt8), (95 : UInt8), (46 : UInt8), (33 : UInt8), (126 : UInt8), (42 : UInt8), (39 : UInt8), (40 : UInt8), (41 : UInt8), (91 : UInt8), (93 : UInt8)] : List UInt8) x0) fun y2 =>
 bif y2.1 then
  some ((1 : Int), ())
 else
 bif (x0 == (37 : Int)) then
  bif (ilt (IntKind.wrap .i64 (i + (2 : Int))) (len l)) then
   bif (ile (0 : Int) (IntKind.wrap .i64 (i + (1 : Int)))) then
   Option.bind (l[(Int.toNat (IntKind.wrap .i64 (i + (1 : Int))))]?) fun x3 =>
   Option.bind (hexR (n + 1) x3) fun y4 =>
   bif (ile (0 : Int) y4.1) then
    bif (ile (0 : Int) (IntKind.wrap .i64 (i + (2 : Int)))) then
    Option.bind (l[(Int.toNat (IntKind.wrap .i64 (i + (2 : Int))))]?) fun x5 =>
    Option.bind (hexR (n + 1) x5) fun y6 =>
    bif (ile (0 : Int) y6.1) then
     some ((3 : Int), ())
    else
    some ((0 : Int), ())
    else none
   else
   some ((0 : Int), ())
   else none
  else
  some ((0 : Int), ())
 else
 some ((0 : Int), ())
 else none
noncomputable def uriR_it : FnIt := ⟨49, [(false, (.slc (.int .i64))), (false, (.int .i64))], [(false, (.int .i64))], 2, fun n x => uriR n x.1 x.2.1⟩
theorem uriR_ok (n : Nat) : FnOK Tryz.prog hint shT uriR_it n :=
  FnOK.of (hk := fun β => (Known.mk [hexR_it, amongR_it, wordR_it] []).hk β) (sh := shT) (fun m _ => KnownOK.hook (((KnownOK.nil.fn wordR_ok).fn amongR_ok).fn hexR_ok) m) (fun x => by kernel_rfl)
noncomputable def L38_5_Xexit0 : Tm := ⟨[], [], 64, 64, 1000⟩
noncomputable def L38_5_Xret : Tm := ⟨[(2, .one (.bool))], [], 64, 64, 1000⟩
noncomputable def L38_5_T : Tm := ⟨[(3, .one (.lst (.int .i64))), (5, .one (.int .i64))], [], 64, 64, 1000⟩
noncomputable def L38_5 : Nat → (List Int) → Int → Option ((Unit × Unit) ⊕ ((Bool × Unit) × Unit))
 | 0, _, _ => none
 | n + 1, t3, t5 =>
  bif (ilt t5 (len t3)) then
   Option.bind (uriR (n + 1) t3 t5) fun y5 =>
   bif (y5.1 == (0 : Int)) then
    some (.inr ((false, ()), ()))
   else
   L38_5 n t3 (IntKind.wrap .i64 (t5 + y5.1))
  else
  some (.inl ((), ()))
noncomputable def L38_5_it : LoopIt := ⟨38, 5, none, L38_5_T, [(.exit 0, L38_5_Xexit0), (.ret, L38_5_Xret)], 3, fun n x => L38_5 n x.1.1 x.1.2.1⟩
theorem L38_5_Xexit0_ok : L38_5_Xexit0.ok Tryz.prog hint := by
  intro p hp
  cases hp
theorem L38_5_Xret_ok : L38_5_Xret.ok Tryz.prog hint := by
  intro p hp
  cases hp
theorem L38_5_T_ok : L38_5_T.ok Tryz.prog hint := by
  intro p hp
  cases hp
theorem L38_5_ok : ∀ n, LoopOK Tryz.prog hint shT L38_5_it n :=
  LoopOK.of (hk := fun β => (Known.mk [uriR_it] []).hk β) (sh := shT) (OneLoop.of (by kernel_rfl)) L38_5_T_ok ⟨⟨L38_5_Xexit0_ok, Nat.le_refl _, Nat.le_refl _⟩, ⟨L38_5_Xret_ok, Nat.le_refl _, Nat.le_refl _⟩, trivial⟩ (fun m => KnownOK.hook (KnownOK.nil.fn uriR_ok) m)
    (fun _ => by kernel_rfl) (fun m x => by kernel_rfl)
noncomputable def validR (n : Nat) (tag : List UInt8) : Option (Bool × Unit) :=
 Option.bind (textP n tag) fun y0 =>
 Option.bind (bif (!y0.2.1) then
   some true
  else
  some ((len y0.1) == (0 : Int))) fun b2 =>
 bif b2 then
  some (false, ())
 else
 Option.bind (L38_5 (n + 1) y0.1 (0 : Int)) fun y6 =>
 match y6 with
  | .inl _ =>
   some (true, ())
  | .inr y8 =>
   some (y8.1.1, ())
noncomputable def validR_it : FnIt := ⟨38, [(false, .str)], [(false, .bool)], 4, fun n x => validR n x.1⟩
theorem validR_ok (n : Nat) : FnOK Tryz.prog hint shT validR_it n :=
  FnOK.of (hk := fun β => (Known.mk [textP_it] [L38_5_it]).hk β) (sh := shT) (fun m _ => KnownOK.hook ((KnownOK.nil.fn textP_ok).loop L38_5_ok L38_5_T_ok) m) (fun x => by kernel_rfl)
noncomputable def textOkR (n : Nat) (s : List UInt8) : Option (Bool × Unit) :=
 Option.bind (textP n s) fun y0 =>
 Option.bind (bif y0.2.1 then
   some (ile (len s) (262144 : Int))
  else
  some false) fun b2 =>
 some (b2, ())
noncomputable def textOkR_it : FnIt := ⟨39, [(false, .str)], [(false, .bool)], 4, fun n x => textOkR n x.1⟩
theorem textOkR_ok (n : Nat) : FnOK Tryz.prog hint shT textOkR_it n :=
  FnOK.of (hk := fun β => (Known.mk [textP_it] []).hk β) (sh := shT) (fun m _ => KnownOK.hook (KnownOK.nil.fn textP_ok) m) (fun x => by kernel_rfl)
noncomputable def L26_4_Xexit0 : Tm := ⟨[(2, .one (.fix (TV.ptr 64 0)))], [(64, .cells 31 [.int .i64, .str, .str, .lst (.int .i64), .bool] true)], 65, 65, 1001⟩
noncomputable def L26_4_Xret : Tm := ⟨[(4, .one (.bool))], [(64, .cells 31 [.int .i64, .str, .str, .lst (.int .i64), .bool] true)], 65, 65, 1001⟩
noncomputable def L26_4_T : Tm := ⟨[(1, .one (.int .i64)), (2, .one (.fix (TV.ptr 64 0))), (5, .one (.int .i64))], [(64, .cells 31 [.int .i64, .str, .str, .lst (.int .i64), .bool] true)], 65, 65, 1001⟩
noncomputable def L26_4 : Nat → Int → Int → Int → (List UInt8) → (List UInt8) → (List Int) → Bool → Option (((Unit × Unit) × ((Int × ((List UInt8) × ((List UInt8) × ((List Int) × (Bool × Unit))))) × Unit)) ⊕ ((Bool × Unit) × ((Int × ((List UInt8) × ((List UInt8) × ((List Int) × (Bool × Unit))))) × Unit)))
 | 0, _, _, _, _, _, _, _ => none
 | n + 1, t1, t5, c64_0, c64_1, c64_2, c64_3, c64_4 =>
  bif (ilt t5 (len c64_3)) then
   Option.bind (bif (ile (0 : Int) t5) then
    Option.bind (c64_3[(Int.toNat t5)]?) fun x10 =>
    bif (ilt x10 (0 : Int)) then
     some true
    else
    bif (ile (0 : Int) t5) then
    Option.bind (c64_3[(Int.toNat t5)]?) fun x11 =>
    some (ile t1 x11)
    else none
    else none) fun b12 =>
   bif b12 then
    some (.inr ((false, ()), ((c64_0, (c64_1, (c64_2, (c64_3, (c64_4, ()))))), ())))
   else
   L26_4 n t1 (IntKind.wrap .i64 (t5 + (1 : Int))) c64_0 c64_1 c64_2 c64_3 c64_4
  else
  some (.inl (((), ()), ((c64_0, (c64_1, (c64_2, (c64_3, (c64_4, ()))))), ())))
noncomputable def L26_4_it : LoopIt := ⟨26, 4, none, L26_4_T, [(.exit 0, L26_4_Xexit0), (.ret, L26_4_Xret)], 0, fun n x => L26_4 n x.1.1 x.1.2.2.1 x.2.1.1 x.2.1.2.1 x.2.1.2.2.1 x.2.1.2.2.2.1 x.2.1.2.2.2.2.1⟩
theorem L26_4_Xexit0_ok : L26_4_Xexit0.ok Tryz.prog hint := by
  intro p hp
  simp only [L26_4_Xexit0, List.mem_cons, List.not_mem_nil, or_false] at hp
  rcases hp with rfl
  · trivial
theorem L26_4_Xret_ok : L26_4_Xret.ok Tryz.prog hint := by
  intro p hp
  simp only [L26_4_Xret, List.mem_cons, List.not_mem_nil, or_false] at hp
  rcases hp with rfl
  · trivial
theorem L26_4_T_ok : L26_4_T.ok Tryz.prog hint := by
  intro p hp
  simp only [L26_4_T, List.mem_cons, List.not_mem_nil, or_false] at hp
  rcases hp with rfl
  · trivial
theorem L26_4_ok : ∀ n, LoopOK Tryz.prog hint shT L26_4_it n :=
  LoopOK.of (hk := fun β => (Known.mk [] []).hk β) (sh := shT) (OneLoop.of (by kernel_rfl)) L26_4_T_ok ⟨⟨L26_4_Xexit0_ok, Nat.le_refl _, Nat.le_refl _⟩, ⟨L26_4_Xret_ok, Nat.le_refl _, Nat.le_refl _⟩, trivial⟩ (fun m => KnownOK.hook KnownOK.nil m)
    (fun _ => by kernel_rfl) (fun m x => by kernel_rfl)
noncomputable def nodeR (n : Nat) (x : (Int × (List UInt8 × (List UInt8 × (List Int × Bool))))) (m : Int) : Option (Bool × Unit) :=
 Option.bind (validR n x.2.1) fun y0 =>
 bif (!y0.1) then
  some (false, ())
 else
 bif (x.2.1 == ([(33 : UInt8)] : List UInt8)) then
  some (false, ())
 else
 bif (ilt (1000 : Int) (len x.2.1)) then
  some (false, ())
 else
 Option.bind (L26_4 (n + 5) m (0 : Int) x.1 x.2.1 x.2.2.1 x.2.2.2.1 x.2.2.2.2) fun y13 =>
 match y13 with
  | .inl y14 =>
   bif (y14.2.1.1 == (1 : Int)) then
    bif ((len y14.2.1.2.2.2.1) == (0 : Int)) then
     Option.bind (textOkR n y14.2.1.2.2.1) fun y16 =>
     some (y16.1, ())
    else
    some (false, ())
   else
   bif (y14.2.1.1 == (2 : Int)) then
    Option.bind (bif (y14.2.1.2.2.1 == ([] : List UInt8)) then
      some (!y14.2.1.2.2.2.2.1)
     else
     some false) fun b18 =>
    some (b18, ())
   else
   bif (y14.2.1.1 == (3 : Int)) then
    Option.bind (bif (y14.2.1.2.2.1 == ([] : List UInt8)) then
      bif (!y14.2.1.2.2.2.2.1) then
       some ((Int.tmod (len y14.2.1.2.2.2.1) (2 : Int)) == (0 : Int))
      else
      some false
     else
     some false) fun b20 =>
    some (b20, ())
   else
   some (false, ())
  | .inr y15 =>
   some (y15.1.1, ())
noncomputable def nodeR_it : FnIt := ⟨26, [(true, (.cons (.int .i64) (.cons .str (.cons .str (.cons (.slc (.int .i64)) .bool))))), (false, (.int .i64))], [(false, .bool)], 5, fun n x => nodeR n x.1 x.2.1⟩
theorem nodeR_ok (n : Nat) : FnOK Tryz.prog hint shT nodeR_it n :=
  FnOK.of (hk := fun β => (Known.mk [textOkR_it, validR_it] [L26_4_it]).hk β) (sh := shT) (fun m _ => KnownOK.hook (((KnownOK.nil.fn validR_ok).loop L26_4_ok L26_4_T_ok).fn textOkR_ok) m) (fun x => by kernel_rfl)
noncomputable def L19_6_Xexit0 : Tm := ⟨[(1, .one (.fix (TV.ptr 64 0))), (3, .one (.int .i64))], [(64, .cells 25 [.lst (.cons (.int .i64) (.cons .str (.cons .str (.cons (.slc (.int .i64)) .bool)))), .lst (.int .i64)] true)], 65, 65, 1001⟩
noncomputable def L19_6_Xret : Tm := ⟨[(2, .one (.bool))], [(64, .cells 25 [.lst (.cons (.int .i64) (.cons .str (.cons .str (.cons (.slc (.int .i64)) .bool)))), .lst (.int .i64)] true)], 65, 65, 1001⟩
noncomputable def L19_6_T : Tm := ⟨[(1, .one (.fix (TV.ptr 64 0))), (3, .one (.int .i64)), (4, .one (.int .i64)), (5, .one (.int .i64))], [(64, .cells 25 [.lst (.cons (.int .i64) (.cons .str (.cons .str (.cons (.slc (.int .i64)) .bool)))), .lst (.int .i64)] true)], 65, 65, 1001⟩
noncomputable def L19_6 : Nat → Int → Int → Int → (List (Int × (List UInt8 × (List UInt8 × (List Int × Bool))))) → (List Int) → Option (((Unit × (Int × Unit)) × (((List (Int × (List UInt8 × (List UInt8 × (List Int × Bool))))) × ((List Int) × Unit)) × Unit)) ⊕ ((Bool × Unit) × (((List (Int × (List UInt8 × (List UInt8 × (List Int × Bool))))) × ((List Int) × Unit)) × Unit)))
 | 0, _, _, _, _, _ => none
 | n + 1, t3, t4, t5, c64_0, c64_1 =>
  bif (ilt t5 t3) then
   bif (ile (0 : Int) t5) then
   Option.bind (c64_0[(Int.toNat t5)]?) fun x8 =>
   bif (ilt (20000 : Int) (IntKind.wrap .i64 (t4 + (len x8.2.2.2.1)))) then
    some (.inr ((false, ()), ((c64_0, (c64_1, ())), ())))
   else
   bif (ile (0 : Int) t5) then
   Option.bind (c64_0[(Int.toNat t5)]?) fun x9 =>
   Option.bind (nodeR (n + 1) (x9.1, (x9.2.1, (x9.2.2.1, (x9.2.2.2.1, x9.2.2.2.2)))) t3) fun y10 =>
   bif (!y10.1) then
    some (.inr ((false, ()), ((c64_0, (c64_1, ())), ())))
   else
   L19_6 n t3 (IntKind.wrap .i64 (t4 + (len x8.2.2.2.1))) (IntKind.wrap .i64 (t5 + (1 : Int))) c64_0 c64_1
   else none
   else none
  else
  some (.inl (((), (t3, ())), ((c64_0, (c64_1, ())), ())))
noncomputable def L19_6_it : LoopIt := ⟨19, 6, none, L19_6_T, [(.exit 0, L19_6_Xexit0), (.ret, L19_6_Xret)], 6, fun n x => L19_6 n x.1.2.1 x.1.2.2.1 x.1.2.2.2.1 x.2.1.1 x.2.1.2.1⟩
theorem L19_6_Xexit0_ok : L19_6_Xexit0.ok Tryz.prog hint := by
  intro p hp
  simp only [L19_6_Xexit0, List.mem_cons, List.not_mem_nil, or_false] at hp
  rcases hp with rfl
  · trivial
theorem L19_6_Xret_ok : L19_6_Xret.ok Tryz.prog hint := by
  intro p hp
  simp only [L19_6_Xret, List.mem_cons, List.not_mem_nil, or_false] at hp
  rcases hp with rfl
  · trivial
theorem L19_6_T_ok : L19_6_T.ok Tryz.prog hint := by
  intro p hp
  simp only [L19_6_T, List.mem_cons, List.not_mem_nil, or_false] at hp
  rcases hp with rfl
  · trivial
theorem L19_6_ok : ∀ n, LoopOK Tryz.prog hint shT L19_6_it n :=
  LoopOK.of (hk := fun β => (Known.mk [nodeR_it] []).hk β) (sh := shT) (OneLoop.of (by kernel_rfl)) L19_6_T_ok ⟨⟨L19_6_Xexit0_ok, Nat.le_refl _, Nat.le_refl _⟩, ⟨L19_6_Xret_ok, Nat.le_refl _, Nat.le_refl _⟩, trivial⟩ (fun m => KnownOK.hook (KnownOK.nil.fn nodeR_ok) m)
    (fun _ => by kernel_rfl) (fun m x => by kernel_rfl)
noncomputable def L19_12_Xexit2 : Tm := ⟨[], [(64, .cells 25 [.lst (.cons (.int .i64) (.cons .str (.cons .str (.cons (.slc (.int .i64)) .bool)))), .lst (.int .i64)] true)], 65, 65, 2002⟩
noncomputable def L19_12_Xret : Tm := ⟨[(2, .one (.bool))], [(64, .cells 25 [.lst (.cons (.int .i64) (.cons .str (.cons .str (.cons (.slc (.int .i64)) .bool)))), .lst (.int .i64)] true)], 65, 65, 2002⟩
noncomputable def L19_12_T : Tm := ⟨[(1, .one (.fix (TV.ptr 64 0))), (3, .one (.int .i64)), (6, .one (.int .i64))], [(64, .cells 25 [.lst (.cons (.int .i64) (.cons .str (.cons .str (.cons (.slc (.int .i64)) .bool)))), .lst (.int .i64)] true)], 65, 65, 2002⟩
noncomputable def L19_12 : Nat → Int → Int → (List (Int × (List UInt8 × (List UInt8 × (List Int × Bool))))) → (List Int) → Option ((Unit × (((List (Int × (List UInt8 × (List UInt8 × (List Int × Bool))))) × ((List Int) × Unit)) × Unit)) ⊕ ((Bool × Unit) × (((List (Int × (List UInt8 × (List UInt8 × (List Int × Bool))))) × ((List Int) × Unit)) × Unit)))
 | 0, _, _, _, _ => none
 | n + 1, t3, t6, c64_0, c64_1 =>
  bif (ilt t6 (len c64_1)) then
   Option.bind (bif (ile (0 : Int) t6) then
    Option.bind (c64_1[(Int.toNat t6)]?) fun x23 =>
    bif (ilt x23 (0 : Int)) then
     some true
    else
    bif (ile (0 : Int) t6) then
    Option.bind (c64_1[(Int.toNat t6)]?) fun x24 =>
    some (ile t3 x24)
    else none
    else none) fun b25 =>
   bif b25 then
    some (.inr ((false, ()), ((c64_0, (c64_1, ())), ())))
   else
   L19_12 n t3 (IntKind.wrap .i64 (t6 + (1 : Int))) c64_0 c64_1
  else
  some (.inl ((), ((c64_0, (c64_1, ())), ())))
noncomputable def L19_12_it : LoopIt := ⟨19, 12, none, L19_12_T, [(.exit 2, L19_12_Xexit2), (.ret, L19_12_Xret)], 0, fun n x => L19_12 n x.1.2.1 x.1.2.2.1 x.2.1.1 x.2.1.2.1⟩
theorem L19_12_Xexit2_ok : L19_12_Xexit2.ok Tryz.prog hint := by
  intro p hp
  simp only [L19_12_Xexit2, List.mem_cons, List.not_mem_nil, or_false] at hp
  rcases hp with rfl
  · trivial
theorem L19_12_Xret_ok : L19_12_Xret.ok Tryz.prog hint := by
  intro p hp
  simp only [L19_12_Xret, List.mem_cons, List.not_mem_nil, or_false] at hp
  rcases hp with rfl
  · trivial
theorem L19_12_T_ok : L19_12_T.ok Tryz.prog hint := by
  intro p hp
  simp only [L19_12_T, List.mem_cons, List.not_mem_nil, or_false] at hp
  rcases hp with rfl
  · trivial
theorem L19_12_ok : ∀ n, LoopOK Tryz.prog hint shT L19_12_it n :=
  LoopOK.of (hk := fun β => (Known.mk [] []).hk β) (sh := shT) (OneLoop.of (by kernel_rfl)) L19_12_T_ok ⟨⟨L19_12_Xexit2_ok, Nat.le_refl _, Nat.le_refl _⟩, ⟨L19_12_Xret_ok, Nat.le_refl _, Nat.le_refl _⟩, trivial⟩ (fun m => KnownOK.hook KnownOK.nil m)
    (fun _ => by kernel_rfl) (fun m x => by kernel_rfl)
noncomputable def rightR (n : Nat) (g : (List (Int × (List UInt8 × (List UInt8 × (List Int × Bool)))) × List Int)) : Option (Bool × Unit) :=
 Option.bind (bif (ilt (20000 : Int) (len g.1)) then
   some true
  else
  some (ilt (20000 : Int) (len g.2))) fun b1 =>
 bif b1 then
  some (false, ())
 else
 Option.bind (L19_6 n (len g.1) (0 : Int) (0 : Int) g.1 g.2) fun y11 =>
 match y11 with
  | .inl y12 =>
   Option.bind (L19_12 (n + 6) y12.1.2.1 (0 : Int) y12.2.1.1 y12.2.1.2.1) fun y26 =>
   match y26 with
    | .inl _ =>
     some (true, ())
    | .inr y28 =>
     some (y28.1.1, ())
  | .inr y13 =>
   some (y13.1.1, ())
noncomputable def rightR_it : FnIt := ⟨19, [(true, (.cons (.slc (.cons (.int .i64) (.cons .str (.cons .str (.cons (.slc (.int .i64)) .bool))))) (.slc (.int .i64))))], [(false, .bool)], 6, fun n x => rightR n x.1⟩
theorem rightR_ok (n : Nat) : FnOK Tryz.prog hint shT rightR_it n :=
  FnOK.of (hk := fun β => (Known.mk [] [L19_12_it, L19_6_it]).hk β) (sh := shT) (fun m _ => KnownOK.hook ((KnownOK.nil.loop L19_6_ok L19_6_T_ok).loop L19_12_ok L19_12_T_ok) m) (fun x => by kernel_rfl)
noncomputable def mayR (n : Nat) (g : (List (Int × (List UInt8 × (List UInt8 × (List Int × Bool)))) × List Int)) (root : Int) : Option (Bool × Unit) :=
 Option.bind (rightR n (g.1, g.2)) fun y0 =>
 bif y0.1 then
  bif (ile (0 : Int) root) then
   some ((ilt root (len g.1)), ())
  else
  some (false, ())
 else
 some (false, ())
noncomputable def mayR_it : FnIt := ⟨10, [(true, (.cons (.slc (.cons (.int .i64) (.cons .str (.cons .str (.cons (.slc (.int .i64)) .bool))))) (.slc (.int .i64)))), (false, (.int .i64))], [(false, .bool)], 7, fun n x => mayR n x.1 x.2.1⟩
theorem mayR_ok (n : Nat) : FnOK Tryz.prog hint shT mayR_it n :=
  FnOK.of (hk := fun β => (Known.mk [rightR_it] []).hk β) (sh := shT) (fun m _ => KnownOK.hook (KnownOK.nil.fn rightR_ok) m) (fun x => by kernel_rfl)
end Go.Proofs.YtnddpppljnjmcaaGreatDoor
