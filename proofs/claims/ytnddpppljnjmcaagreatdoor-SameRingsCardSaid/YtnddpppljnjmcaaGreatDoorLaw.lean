/- Plain functions for the program's. -/
import Derived.Test.YtnddpppljnjmcaaGreatDoorFa
import Derived.Test.YtnddpppljnjmcaaGreatDoorGvPlain
import Derived.Lib.ValidLaws
set_option linter.unusedSimpArgs false
set_option linter.unusedVariables false
namespace Go.Proofs.YtnddpppljnjmcaaGreatDoor
open Go Go.Iv Go.Gv
set_option maxRecDepth 100000
set_option linter.unusedVariables false
noncomputable def hex (_n : Nat) (c : Int) : Option (Int × Unit) :=
 Option.bind (bif (ile (48 : Int) c) then
   some (ile c (57 : Int))
  else
  some false) fun b1 =>
 bif b1 then
  some ((IntKind.wrap .i64 (c - (48 : Int))), ())
 else
 Option.bind (bif (ile (97 : Int) c) then
   some (ile c (102 : Int))
  else
  some false) fun b3 =>
 bif b3 then
  some ((IntKind.wrap .i64 ((IntKind.wrap .i64 (c - (97 : Int))) + (10 : Int))), ())
 else
 Option.bind (bif (ile (65 : Int) c) then
   some (ile c (70 : Int))
  else
  some false) fun b5 =>
 bif b5 then
  some ((IntKind.wrap .i64 ((IntKind.wrap .i64 (c - (65 : Int))) + (10 : Int))), ())
 else
 some ((-(1 : Int)), ())
noncomputable def hex_it : FnIt := ⟨90, [(false, (.int .i64))], [(false, (.int .i64))], 1, fun n x => hex n x.1⟩
theorem hex_ok (n : Nat) : FnOK Tryz.prog hint shT hex_it n :=
  FnOK.of (hk := fun β => (Known.mk [] []).hk β) (sh := shT) (fun m _ => KnownOK.hook KnownOK.nil m) (fun x => by kernel_rfl)
noncomputable def word (_n : Nat) (c : Int) : Option (Bool × Unit) :=
 Option.bind (bif (ile (48 : Int) c) then
   some (ile c (57 : Int))
  else
  some false) fun b1 =>
 bif b1 then
  some (true, ())
 else
 Option.bind (bif (ile (97 : Int) c) then
   some (ile c (122 : Int))
  else
  some false) fun b3 =>
 bif b3 then
  some (true, ())
 else
 Option.bind (bif (ile (65 : Int) c) then
   some (ile c (90 : Int))
  else
  some false) fun b5 =>
 bif b5 then
  some (true, ())
 else
 some ((c == (45 : Int)), ())
noncomputable def word_it : FnIt := ⟨107, [(false, (.int .i64))], [(false, .bool)], 1, fun n x => word n x.1⟩
theorem word_ok (n : Nat) : FnOK Tryz.prog hint shT word_it n :=
  FnOK.of (hk := fun β => (Known.mk [] []).hk β) (sh := shT) (fun m _ => KnownOK.hook KnownOK.nil m) (fun x => by kernel_rfl)
noncomputable def L86_10_Xexit0 : Tm := ⟨[], [], 64, 64, 1000⟩
noncomputable def L86_10_Xret : Tm := ⟨[(2, .one (.int .i64))], [], 64, 64, 1000⟩
noncomputable def L86_10_T : Tm := ⟨[(0, .one (.lst (.int .i64))), (34, .one (.lst .byte)), (35, .one (.int .i64)), (36, .one (.int .i64))], [], 64, 64, 1000⟩
noncomputable def L86_10 : Nat → (List Int) → (List UInt8) → Int → Int → Option ((Unit × Unit) ⊕ ((Int × Unit) × Unit))
 | 0, _, _, _, _ => none
 | n + 1, t0, t34, t35, t36 =>
  bif (ilt t36 t35) then
   bif (ile (0 : Int) t36) then
   Option.bind (t34[(Int.toNat t36)]?) fun x11 =>
   Option.bind (t0[0]?) fun x12 =>
   bif (x12 == (IntKind.wrap .i64 (ub x11))) then
    some (.inr (((1 : Int), ()), ()))
   else
   L86_10 n t0 t34 t35 (IntKind.wrap .i64 (t36 + (1 : Int)))
   else none
  else
  some (.inl ((), ()))
noncomputable def L86_10_it : LoopIt := ⟨86, 10, none, L86_10_T, [(.exit 0, L86_10_Xexit0), (.ret, L86_10_Xret)], 0, fun n x => L86_10 n x.1.1 x.1.2.1 x.1.2.2.1 x.1.2.2.2.1⟩
theorem L86_10_Xexit0_ok : L86_10_Xexit0.ok Tryz.prog hint := by
  intro p hp
  cases hp
theorem L86_10_Xret_ok : L86_10_Xret.ok Tryz.prog hint := by
  intro p hp
  cases hp
theorem L86_10_T_ok : L86_10_T.ok Tryz.prog hint := by
  intro p hp
  cases hp
theorem L86_10_ok : ∀ n, LoopOK Tryz.prog hint shT L86_10_it n :=
  LoopOK.of (hk := fun β => (Known.mk [] []).hk β) (sh := shT) (OneLoop.of (by kernel_rfl)) L86_10_T_ok ⟨⟨L86_10_Xexit0_ok, Nat.le_refl _, Nat.le_refl _⟩, ⟨L86_10_Xret_ok, Nat.le_refl _, Nat.le_refl _⟩, trivial⟩ (fun m => KnownOK.hook KnownOK.nil m)
    (fun _ => by kernel_rfl) (fun m x => by kernel_rfl)
noncomputable def sign (n : Nat) (l : List Int) : Option (Int × Unit) :=
 bif ((len l) == (0 : Int)) then
  some ((0 : Int), ())
 else
 Option.bind (l[0]?) fun x0 =>
 bif (x0 == (37 : Int)) then
  bif (ilt (2 : Int) (len l)) then
   Option.bind (l[1]?) fun x1 =>
   Option.bind (hex n x1) fun y2 =>
   bif (ile (0 : Int) y2.1) then
    Option.bind (l[2]?) fun x3 =>
    Option.bind (hex n x3) fun y4 =>
    bif (ile (0 : Int) y4.1) then
     some ((3 : Int), ())
    else
    some ((0 : Int), ())
   else
   some ((0 : Int), ())
  else
  some ((0 : Int), ())
 else
 Option.bind (l[0]?) fun x5 =>
 Option.bind (word n x5) fun y6 =>
 bif y6.1 then
  some ((1 : Int), ())
 else
 Option.bind (L86_10 (n + 2) l ([(35 : UInt8), (59 : UInt8), (47 : UInt8), (63 : UInt8), (58 : UInt8), (64 : UInt8), (38 : UInt8), (61 : UInt8), (43 : UInt8), (36 : UInt8), (44 : UInt8), (95 : UInt8), (46 : UInt8), (33 : UInt8), (126 : UInt8), (42 : UInt8), (39 : UInt8), (40 : UInt8), (41 : UInt8), (91 : UInt8), (93 : UInt8)] : List UInt8) (21 : Int) (0 : Int)) fun y13 =>
 match y13 with
  | .inl _ =>
   some ((0 : Int), ())
  | .inr y15 =>
   some (y15.1.1, ())
noncomputable def sign_it : FnIt := ⟨86, [(false, (.slc (.int .i64)))], [(false, (.int .i64))], 2, fun n x => sign n x.1⟩
theorem sign_ok (n : Nat) : FnOK Tryz.prog hint shT sign_it n :=
  FnOK.of (hk := fun β => (Known.mk [word_it, hex_it] [L86_10_it]).hk β) (sh := shT) (fun m _ => KnownOK.hook (((KnownOK.nil.fn hex_ok).fn word_ok).loop L86_10_ok L86_10_T_ok) m) (fun x => by kernel_rfl)
noncomputable def L40_3_Xexit0 : Tm := ⟨[(3, .one (.all 64 3 (.int .i64) true))], [], 64, 65, 1000⟩
noncomputable def L40_3_T : Tm := ⟨[(3, .one (.all 64 3 (.int .i64) true)), (7, .one (.lst .byte)), (8, .one (.int .i64)), (9, .one (.int .i64))], [], 64, 65, 1000⟩
noncomputable def L40_3 : Nat → (List Int) → (List UInt8) → Int → Int → Option (((List Int) × Unit) × Unit)
 | 0, _, _, _, _ => none
 | n + 1, t3, t7, t8, t9 =>
  bif (ilt t9 t8) then
   bif (ile (0 : Int) t9) then
   Option.bind (t7[(Int.toNat t9)]?) fun x3 =>
   bif (room (((List.length t3) + (List.length ((IntKind.wrap .i64 (ub x3)) :: ([] : List Int)))) * 9)) then
   L40_3 n (t3 ++ ((IntKind.wrap .i64 (ub x3)) :: ([] : List Int))) t7 t8 (IntKind.wrap .i64 (t9 + (1 : Int)))
   else none
   else none
  else
  some ((t3, ()), ())
noncomputable def L40_3_it : LoopIt := ⟨40, 3, none, L40_3_T, [(.exit 0, L40_3_Xexit0)], 0, fun n x => L40_3 n x.1.1 x.1.2.1 x.1.2.2.1 x.1.2.2.2.1⟩
theorem L40_3_Xexit0_ok : L40_3_Xexit0.ok Tryz.prog hint := by
  intro p hp
  cases hp
theorem L40_3_T_ok : L40_3_T.ok Tryz.prog hint := by
  intro p hp
  cases hp
theorem L40_3_ok : ∀ n, LoopOK Tryz.prog hint shT L40_3_it n :=
  LoopOK.of (hk := fun β => (Known.mk [] []).hk β) (sh := shT) (OneLoop.of (by kernel_rfl)) L40_3_T_ok ⟨⟨L40_3_Xexit0_ok, Nat.le_refl _, Nat.le_refl _⟩, trivial⟩ (fun m => KnownOK.hook KnownOK.nil m)
    (fun _ => by kernel_rfl) (fun m x => by kernel_rfl)
noncomputable def L85_1_Xret : Tm := ⟨[], [(64, .arr 3 (.int .i64) true true true), (65, .cells 23 [.lst (.int .i64)] true), (66, .cells 36 [.fix (TV.fn 51 [] [])] true), (67, .cells 3 [.int .i64] true), (68, .cells 23 [.lst (.int .i64)] true), (69, .loop 50 Go.LoopState.ready (Option.none) (fiIn Tryz.prog hint 50) [(2, .one (.fix (TV.ptr 65 0))), (3, .one (.fix (TV.ptr 66 0))), (5, .one (.fix (TV.ptr 67 0)))] (rangeIn Tryz.prog 50 5).1 (rangeIn Tryz.prog 50 5).2.1 (rangeIn Tryz.prog 50 5).2.2)], 70, 70, 2008⟩
noncomputable def L85_1_T : Tm := ⟨[(0, .one (.fix (TV.yld 69))), (1, .one (.fix (TV.ptr 68 0))), (3, .one (.int .i64))], [(64, .arr 3 (.int .i64) true true true), (65, .cells 23 [.lst (.int .i64)] true), (66, .cells 36 [.fix (TV.fn 51 [] [])] true), (67, .cells 3 [.int .i64] true), (68, .cells 23 [.lst (.int .i64)] true), (69, .loop 50 Go.LoopState.ready (Option.none) (fiIn Tryz.prog hint 50) [(2, .one (.fix (TV.ptr 65 0))), (3, .one (.fix (TV.ptr 66 0))), (5, .one (.fix (TV.ptr 67 0)))] (rangeIn Tryz.prog 50 5).1 (rangeIn Tryz.prog 50 5).2.1 (rangeIn Tryz.prog 50 5).2.2)], 70, 70, 2008⟩
noncomputable def L85_1 : Nat → Int → (List Int) → (List Int) → Int → (List Int) → Option (Unit × ((List Int) × (((List Int) × Unit) × ((Unit × Unit) × ((Int × Unit) × (((List Int) × Unit) × ((Unit × (Unit × (Unit × Unit))) × Unit)))))))
 | 0, _, _, _, _, _ => none
 | n + 1, t3, a64, c65_0, c67_0, c68_0 =>
  bif ((ile (0 : Int) t3) && (ile t3 (len c68_0))) then
  Option.bind (sign (n + 1) (List.take ((List.length c68_0) - (Int.toNat t3)) (List.drop (Int.toNat t3) c68_0))) fun y9 =>
  bif (y9.1 == (0 : Int)) then
   some ((), (a64, ((c65_0, ()), (((), ()), ((c67_0, ()), ((c68_0, ()), (((), ((), ((), ()))), ())))))))
  else
  bif (ile (0 : Int) t3) then
  Option.bind (c65_0[(Int.toNat t3)]?) fun _ =>
  L85_1 n (IntKind.wrap .i64 (t3 + y9.1)) a64 c65_0 (IntKind.wrap .i64 (t3 + y9.1)) c68_0
  else none
  else none
noncomputable def L85_1_it : LoopIt := ⟨85, 1, none, L85_1_T, [(.ret, L85_1_Xret)], 3, fun n x => L85_1 n x.1.2.2.1 x.2.1 x.2.2.1.1 x.2.2.2.2.1.1 x.2.2.2.2.2.1.1⟩
theorem L85_1_Xret_ok : L85_1_Xret.ok Tryz.prog hint := by
  intro p hp
  simp only [L85_1_Xret, List.mem_cons, List.not_mem_nil, or_false] at hp
  rcases hp with rfl | rfl | rfl | rfl | rfl | rfl
  · trivial
  · trivial
  · trivial
  · trivial
  · trivial
  · exact Uniq.of (by kernel_rfl) (by kernel_rfl)
theorem L85_1_T_ok : L85_1_T.ok Tryz.prog hint := by
  intro p hp
  simp only [L85_1_T, List.mem_cons, List.not_mem_nil, or_false] at hp
  rcases hp with rfl | rfl | rfl | rfl | rfl | rfl
  · trivial
  · trivial
  · trivial
  · trivial
  · trivial
  · exact Uniq.of (by kernel_rfl) (by kernel_rfl)
theorem L85_1_ok : ∀ n, LoopOK Tryz.prog hint shT L85_1_it n :=
  LoopOK.of (hk := fun β => (Known.mk [sign_it] []).hk β) (sh := shT) (OneLoop.of (by kernel_rfl)) L85_1_T_ok ⟨⟨L85_1_Xret_ok, Nat.le_refl _, Nat.le_refl _⟩, trivial⟩ (fun m => KnownOK.hook (KnownOK.nil.fn sign_ok) m)
    (fun _ => by kernel_rfl) (fun m x => by kernel_rfl)
noncomputable def valid (n : Nat) (tag : List UInt8) : Option (Bool × Unit) :=
 Option.bind (L40_3 (n + 5) ([] : List Int) tag (len tag) (0 : Int)) fun y4 =>
 bif (ilt (0 : Int) (len y4.1.1)) then
  Option.bind (L85_1 n (0 : Int) y4.1.1 y4.1.1 (0 : Int) y4.1.1) fun y11 =>
  some ((y11.2.2.2.2.1.1 == (len y11.2.1)), ())
 else
 some (false, ())
noncomputable def valid_it : FnIt := ⟨40, [(false, .str)], [(false, .bool)], 5, fun n x => valid n x.1⟩
theorem valid_ok (n : Nat) : FnOK Tryz.prog hint shT valid_it n :=
  FnOK.of (hk := fun β => (Known.mk [] [L85_1_it, L40_3_it]).hk β) (sh := shT) (fun m _ => KnownOK.hook ((KnownOK.nil.loop L40_3_ok L40_3_T_ok).loop L85_1_ok L85_1_T_ok) m) (fun x => by kernel_rfl)
end Go.Proofs.YtnddpppljnjmcaaGreatDoor
/- Plain functions for the program's. -/
namespace Go.Proofs.YtnddpppljnjmcaaGreatDoor
open Go Go.Iv Go.Gv
set_option maxRecDepth 100000
set_option linter.unusedVariables false
noncomputable def textOk (_n : Nat) (s : List UInt8) : Option (Bool × Unit) :=
 bif (ile (len s) (262144 : Int)) then
  bif (Nat.ble (List.length s) 9223372036854775807) then
  some ((Go.Lib.validD s), ())
  else none
 else
 some (false, ())
noncomputable def textOk_it : FnIt := ⟨41, [(false, .str)], [(false, .bool)], 1, fun n x => textOk n x.1⟩
theorem textOk_ok (n : Nat) : FnOK Tryz.prog hint shT textOk_it n :=
  FnOK.of (hk := fun β => (Known.mk [] []).hk β) (sh := shT) (fun m _ => KnownOK.hook KnownOK.nil m) (fun x => by kernel_rfl)
noncomputable def L27_2_Xexit0 : Tm := ⟨[], [(64, .cells 25 [.lst (.cons (.int .i64) (.cons .str (.cons .str (.cons (.slc (.int .i64)) .bool)))), .lst (.int .i64)] true)], 65, 65, 1001⟩
noncomputable def L27_2_Xret : Tm := ⟨[(4, .one (.bool))], [(64, .cells 25 [.lst (.cons (.int .i64) (.cons .str (.cons .str (.cons (.slc (.int .i64)) .bool)))), .lst (.int .i64)] true)], 65, 65, 1001⟩
noncomputable def L27_2_T : Tm := ⟨[(2, .one (.fix (TV.ptr 64 0))), (7, .one (.lst (.int .i64))), (8, .one (.int .i64)), (9, .one (.int .i64))], [(64, .cells 25 [.lst (.cons (.int .i64) (.cons .str (.cons .str (.cons (.slc (.int .i64)) .bool)))), .lst (.int .i64)] true)], 65, 65, 1001⟩
noncomputable def L27_2 : Nat → (List Int) → Int → Int → (List (Int × (List UInt8 × (List UInt8 × (List Int × Bool))))) → (List Int) → Option ((Unit × (((List (Int × (List UInt8 × (List UInt8 × (List Int × Bool))))) × ((List Int) × Unit)) × Unit)) ⊕ ((Bool × Unit) × (((List (Int × (List UInt8 × (List UInt8 × (List Int × Bool))))) × ((List Int) × Unit)) × Unit)))
 | 0, _, _, _, _, _ => none
 | n + 1, t7, t8, t9, c64_0, c64_1 =>
  bif (ilt t9 t8) then
   bif (ile (0 : Int) t9) then
   Option.bind (t7[(Int.toNat t9)]?) fun x6 =>
   Option.bind (bif (ilt x6 (0 : Int)) then
     some true
    else
    some (ile (len c64_0) x6)) fun b8 =>
   bif b8 then
    some (.inr ((false, ()), ((c64_0, (c64_1, ())), ())))
   else
   L27_2 n t7 t8 (IntKind.wrap .i64 (t9 + (1 : Int))) c64_0 c64_1
   else none
  else
  some (.inl ((), ((c64_0, (c64_1, ())), ())))
noncomputable def L27_2_it : LoopIt := ⟨27, 2, none, L27_2_T, [(.exit 0, L27_2_Xexit0), (.ret, L27_2_Xret)], 0, fun n x => L27_2 n x.1.2.1 x.1.2.2.1 x.1.2.2.2.1 x.2.1.1 x.2.1.2.1⟩
theorem L27_2_Xexit0_ok : L27_2_Xexit0.ok Tryz.prog hint := by
  intro p hp
  simp only [L27_2_Xexit0, List.mem_cons, List.not_mem_nil, or_false] at hp
  rcases hp with rfl
  · trivial
theorem L27_2_Xret_ok : L27_2_Xret.ok Tryz.prog hint := by
  intro p hp
  simp only [L27_2_Xret, List.mem_cons, List.not_mem_nil, or_false] at hp
  rcases hp with rfl
  · trivial
theorem L27_2_T_ok : L27_2_T.ok Tryz.prog hint := by
  intro p hp
  simp only [L27_2_T, List.mem_cons, List.not_mem_nil, or_false] at hp
  rcases hp with rfl
  · trivial
theorem L27_2_ok : ∀ n, LoopOK Tryz.prog hint shT L27_2_it n :=
  LoopOK.of (hk := fun β => (Known.mk [] []).hk β) (sh := shT) (OneLoop.of (by kernel_rfl)) L27_2_T_ok ⟨⟨L27_2_Xexit0_ok, Nat.le_refl _, Nat.le_refl _⟩, ⟨L27_2_Xret_ok, Nat.le_refl _, Nat.le_refl _⟩, trivial⟩ (fun m => KnownOK.hook KnownOK.nil m)
    (fun _ => by kernel_rfl) (fun m x => by kernel_rfl)
noncomputable def are (n : Nat) (g : (List (Int × (List UInt8 × (List UInt8 × (List Int × Bool)))) × List Int)) (l : List Int) : Option (Bool × Unit) :=
 Option.bind (L27_2 (n + 1) l (len l) (0 : Int) g.1 g.2) fun y9 =>
 match y9 with
  | .inl _ =>
   some (true, ())
  | .inr y11 =>
   some (y11.1.1, ())
noncomputable def are_it : FnIt := ⟨27, [(true, (.cons (.slc (.cons (.int .i64) (.cons .str (.cons .str (.cons (.slc (.int .i64)) .bool))))) (.slc (.int .i64)))), (false, (.slc (.int .i64)))], [(false, .bool)], 1, fun n x => are n x.1 x.2.1⟩
theorem are_ok (n : Nat) : FnOK Tryz.prog hint shT are_it n :=
  FnOK.of (hk := fun β => (Known.mk [] [L27_2_it]).hk β) (sh := shT) (fun m _ => KnownOK.hook (KnownOK.nil.loop L27_2_ok L27_2_T_ok) m) (fun x => by kernel_rfl)
noncomputable def node (n : Nat) (x : (Int × (List UInt8 × (List UInt8 × (List Int × Bool))))) : Option (Bool × Unit) :=
 bif (ilt (1000 : Int) (len x.2.1)) then
  some (false, ())
 else
 bif (x.2.1 == ([(33 : UInt8)] : List UInt8)) then
  some (false, ())
 else
 Option.bind (valid n x.2.1) fun y0 =>
 bif (!y0.1) then
  some (false, ())
 else
 bif (x.1 == (1 : Int)) then
  bif ((len x.2.2.2.1) == (0 : Int)) then
   Option.bind (textOk (n + 4) x.2.2.1) fun y1 =>
   some (y1.1, ())
  else
  some (false, ())
 else
 bif (x.1 == (2 : Int)) then
  Option.bind (bif (x.2.2.1 == ([] : List UInt8)) then
    some (!x.2.2.2.2)
   else
   some false) fun b3 =>
  some (b3, ())
 else
 bif (x.1 == (3 : Int)) then
  Option.bind (bif (x.2.2.1 == ([] : List UInt8)) then
    bif (!x.2.2.2.2) then
     some ((Int.tmod (len x.2.2.2.1) (2 : Int)) == (0 : Int))
    else
    some false
   else
   some false) fun b5 =>
  some (b5, ())
 else
 some (false, ())
noncomputable def node_it : FnIt := ⟨28, [(true, (.cons (.int .i64) (.cons .str (.cons .str (.cons (.slc (.int .i64)) .bool)))))], [(false, .bool)], 6, fun n x => node n x.1⟩
theorem node_ok (n : Nat) : FnOK Tryz.prog hint shT node_it n :=
  FnOK.of (hk := fun β => (Known.mk [textOk_it, valid_it] []).hk β) (sh := shT) (fun m _ => KnownOK.hook ((KnownOK.nil.fn valid_ok).fn textOk_ok) m) (fun x => by kernel_rfl)
noncomputable def L20_5_Xexit0 : Tm := ⟨[], [(64, .cells 25 [.lst (.cons (.int .i64) (.cons .str (.cons .str (.cons (.slc (.int .i64)) .bool)))), .lst (.int .i64)] true)], 65, 65, 1001⟩
noncomputable def L20_5_Xret : Tm := ⟨[(2, .one (.bool))], [(64, .cells 25 [.lst (.cons (.int .i64) (.cons .str (.cons .str (.cons (.slc (.int .i64)) .bool)))), .lst (.int .i64)] true)], 65, 65, 1001⟩
noncomputable def L20_5_T : Tm := ⟨[(1, .one (.fix (TV.ptr 64 0))), (3, .one (.int .i64)), (24, .one (.lst (.cons (.int .i64) (.cons .str (.cons .str (.cons (.slc (.int .i64)) .bool)))))), (25, .one (.int .i64)), (26, .one (.int .i64))], [(64, .cells 25 [.lst (.cons (.int .i64) (.cons .str (.cons .str (.cons (.slc (.int .i64)) .bool)))), .lst (.int .i64)] true)], 65, 65, 1001⟩
noncomputable def L20_5 : Nat → Int → (List (Int × (List UInt8 × (List UInt8 × (List Int × Bool))))) → Int → Int → (List (Int × (List UInt8 × (List UInt8 × (List Int × Bool))))) → (List Int) → Option ((Unit × (((List (Int × (List UInt8 × (List UInt8 × (List Int × Bool))))) × ((List Int) × Unit)) × Unit)) ⊕ ((Bool × Unit) × (((List (Int × (List UInt8 × (List UInt8 × (List Int × Bool))))) × ((List Int) × Unit)) × Unit)))
 | 0, _, _, _, _, _, _ => none
 | n + 1, t3, t24, t25, t26, c64_0, c64_1 =>
  bif (ilt t26 t25) then
   bif (ile (0 : Int) t26) then
   Option.bind (t24[(Int.toNat t26)]?) fun x7 =>
   bif (ilt (20000 : Int) (IntKind.wrap .i64 (t3 + (len x7.2.2.2.1)))) then
    some (.inr ((false, ()), ((c64_0, (c64_1, ())), ())))
   else
   Option.bind (node (n + 1) (x7.1, (x7.2.1, (x7.2.2.1, (x7.2.2.2.1, x7.2.2.2.2))))) fun y8 =>
   bif (!y8.1) then
    some (.inr ((false, ()), ((c64_0, (c64_1, ())), ())))
   else
   Option.bind (are (n + 6) (c64_0, c64_1) x7.2.2.2.1) fun y9 =>
   bif (!y9.1) then
    some (.inr ((false, ()), ((c64_0, (c64_1, ())), ())))
   else
   L20_5 n (IntKind.wrap .i64 (t3 + (len x7.2.2.2.1))) t24 t25 (IntKind.wrap .i64 (t26 + (1 : Int))) c64_0 c64_1
   else none
  else
  some (.inl ((), ((c64_0, (c64_1, ())), ())))
noncomputable def L20_5_it : LoopIt := ⟨20, 5, none, L20_5_T, [(.exit 0, L20_5_Xexit0), (.ret, L20_5_Xret)], 7, fun n x => L20_5 n x.1.2.1 x.1.2.2.1 x.1.2.2.2.1 x.1.2.2.2.2.1 x.2.1.1 x.2.1.2.1⟩
theorem L20_5_Xexit0_ok : L20_5_Xexit0.ok Tryz.prog hint := by
  intro p hp
  simp only [L20_5_Xexit0, List.mem_cons, List.not_mem_nil, or_false] at hp
  rcases hp with rfl
  · trivial
theorem L20_5_Xret_ok : L20_5_Xret.ok Tryz.prog hint := by
  intro p hp
  simp only [L20_5_Xret, List.mem_cons, List.not_mem_nil, or_false] at hp
  rcases hp with rfl
  · trivial
theorem L20_5_T_ok : L20_5_T.ok Tryz.prog hint := by
  intro p hp
  simp only [L20_5_T, List.mem_cons, List.not_mem_nil, or_false] at hp
  rcases hp with rfl
  · trivial
theorem L20_5_ok : ∀ n, LoopOK Tryz.prog hint shT L20_5_it n :=
  LoopOK.of (hk := fun β => (Known.mk [are_it, node_it] []).hk β) (sh := shT) (OneLoop.of (by kernel_rfl)) L20_5_T_ok ⟨⟨L20_5_Xexit0_ok, Nat.le_refl _, Nat.le_refl _⟩, ⟨L20_5_Xret_ok, Nat.le_refl _, Nat.le_refl _⟩, trivial⟩ (fun m => KnownOK.hook ((KnownOK.nil.fn node_ok).fn are_ok) m)
    (fun _ => by kernel_rfl) (fun m x => by kernel_rfl)
noncomputable def right (n : Nat) (g : (List (Int × (List UInt8 × (List UInt8 × (List Int × Bool)))) × List Int)) : Option (Bool × Unit) :=
 bif (ilt (20000 : Int) (len g.1)) then
  some (false, ())
 else
 bif (ilt (20000 : Int) (len g.2)) then
  some (false, ())
 else
 Option.bind (are (n + 5) (g.1, g.2) g.2) fun y0 =>
 bif (!y0.1) then
  some (false, ())
 else
 Option.bind (L20_5 n (0 : Int) g.1 (len g.1) (0 : Int) g.1 g.2) fun y10 =>
 match y10 with
  | .inl _ =>
   some (true, ())
  | .inr y12 =>
   some (y12.1.1, ())
noncomputable def right_it : FnIt := ⟨20, [(true, (.cons (.slc (.cons (.int .i64) (.cons .str (.cons .str (.cons (.slc (.int .i64)) .bool))))) (.slc (.int .i64))))], [(false, .bool)], 7, fun n x => right n x.1⟩
theorem right_ok (n : Nat) : FnOK Tryz.prog hint shT right_it n :=
  FnOK.of (hk := fun β => (Known.mk [are_it] [L20_5_it]).hk β) (sh := shT) (fun m _ => KnownOK.hook ((KnownOK.nil.fn are_ok).loop L20_5_ok L20_5_T_ok) m) (fun x => by kernel_rfl)
noncomputable def L9_3_Xexit0 : Tm := ⟨[(1, .one (.fix (TV.ptr 64 0))), (3, .one (.int .i64))], [(64, .cells 25 [.lst (.cons (.int .i64) (.cons .str (.cons .str (.cons (.slc (.int .i64)) .bool)))), .lst (.int .i64)] true)], 65, 65, 1001⟩
noncomputable def L9_3_T : Tm := ⟨[(1, .one (.fix (TV.ptr 64 0))), (3, .one (.int .i64)), (4, .one (.int .i64))], [(64, .cells 25 [.lst (.cons (.int .i64) (.cons .str (.cons .str (.cons (.slc (.int .i64)) .bool)))), .lst (.int .i64)] true)], 65, 65, 1001⟩
noncomputable def L9_3 : Nat → Int → Int → (List (Int × (List UInt8 × (List UInt8 × (List Int × Bool))))) → (List Int) → Option ((Unit × (Int × Unit)) × (((List (Int × (List UInt8 × (List UInt8 × (List Int × Bool))))) × ((List Int) × Unit)) × Unit))
 | 0, _, _, _, _ => none
 | n + 1, t3, t4, c64_0, c64_1 =>
  Option.bind (bif (ilt t4 (len c64_0)) then
    some (ilt t4 (100 : Int))
   else
   some false) fun b11 =>
  bif b11 then
   bif (ile (0 : Int) t4) then
   Option.bind (c64_0[(Int.toNat t4)]?) fun x12 =>
   bif (ile (0 : Int) t4) then
   Option.bind (c64_0[(Int.toNat t4)]?) fun x13 =>
   bif (ile (0 : Int) t4) then
   Option.bind (c64_0[(Int.toNat t4)]?) fun x14 =>
   L9_3 n (IntKind.wrap .i64 ((IntKind.wrap .i64 ((IntKind.wrap .i64 (t3 + (len x12.2.2.2.1))) + (IntKind.wrap .i64 (Int.tdiv (len x13.2.2.1) (20 : Int))))) + (IntKind.wrap .i64 (Int.tdiv (len x14.2.1) (20 : Int))))) (IntKind.wrap .i64 (t4 + (1 : Int))) c64_0 c64_1
   else none
   else none
   else none
  else
  some (((), (t3, ())), ((c64_0, (c64_1, ())), ()))
noncomputable def L9_3_it : LoopIt := ⟨9, 3, none, L9_3_T, [(.exit 0, L9_3_Xexit0)], 0, fun n x => L9_3 n x.1.2.1 x.1.2.2.1 x.2.1.1 x.2.1.2.1⟩
theorem L9_3_Xexit0_ok : L9_3_Xexit0.ok Tryz.prog hint := by
  intro p hp
  simp only [L9_3_Xexit0, List.mem_cons, List.not_mem_nil, or_false] at hp
  rcases hp with rfl
  · trivial
theorem L9_3_T_ok : L9_3_T.ok Tryz.prog hint := by
  intro p hp
  simp only [L9_3_T, List.mem_cons, List.not_mem_nil, or_false] at hp
  rcases hp with rfl
  · trivial
theorem L9_3_ok : ∀ n, LoopOK Tryz.prog hint shT L9_3_it n :=
  LoopOK.of (hk := fun β => (Known.mk [] []).hk β) (sh := shT) (OneLoop.of (by kernel_rfl)) L9_3_T_ok ⟨⟨L9_3_Xexit0_ok, Nat.le_refl _, Nat.le_refl _⟩, trivial⟩ (fun m => KnownOK.hook KnownOK.nil m)
    (fun _ => by kernel_rfl) (fun m x => by kernel_rfl)
noncomputable def big (n : Nat) (g : (List (Int × (List UInt8 × (List UInt8 × (List Int × Bool)))) × List Int)) : Option (Bool × Unit) :=
 Option.bind (L9_3 (n + 1) (0 : Int) (0 : Int) g.1 g.2) fun y15 =>
 Option.bind (bif (ilt (60 : Int) (len y15.2.1.1)) then
   some true
  else
  bif (ilt (20 : Int) (len y15.2.1.2.1)) then
   some true
  else
  some (ilt (400 : Int) y15.1.2.1)) fun b17 =>
 some (b17, ())
noncomputable def big_it : FnIt := ⟨9, [(true, (.cons (.slc (.cons (.int .i64) (.cons .str (.cons .str (.cons (.slc (.int .i64)) .bool))))) (.slc (.int .i64))))], [(false, .bool)], 1, fun n x => big n x.1⟩
theorem big_ok (n : Nat) : FnOK Tryz.prog hint shT big_it n :=
  FnOK.of (hk := fun β => (Known.mk [] [L9_3_it]).hk β) (sh := shT) (fun m _ => KnownOK.hook (KnownOK.nil.loop L9_3_ok L9_3_T_ok) m) (fun x => by kernel_rfl)
end Go.Proofs.YtnddpppljnjmcaaGreatDoor
/- Plain functions for the program's. -/
namespace Go.Proofs.YtnddpppljnjmcaaGreatDoor
open Go Go.Iv Go.Gv
set_option maxRecDepth 100000
set_option linter.unusedVariables false
noncomputable def L97_2_Xexit0 : Tm := ⟨[(3, .one (.int .i64))], [], 64, 64, 1000⟩
noncomputable def L97_2_T : Tm := ⟨[(0, .one (.str)), (3, .one (.int .i64))], [], 64, 64, 1000⟩
noncomputable def L97_2 : Nat → (List UInt8) → Int → Option ((Int × Unit) × Unit)
 | 0, _, _ => none
 | n + 1, t0, t3 =>
  Option.bind (bif (ilt t3 (len t0)) then
    bif (ile (0 : Int) t3) then
    Option.bind (t0[(Int.toNat t3)]?) fun x9 =>
    bif (Nat.ble (UInt8.toNat (48 : UInt8)) (UInt8.toNat x9)) then
     bif (ile (0 : Int) t3) then
     Option.bind (t0[(Int.toNat t3)]?) fun x10 =>
     some (Nat.ble (UInt8.toNat x10) (UInt8.toNat (57 : UInt8)))
     else none
    else
    some false
    else none
   else
   some false) fun b11 =>
  bif b11 then
   L97_2 n t0 (IntKind.wrap .i64 (t3 + (1 : Int)))
  else
  some ((t3, ()), ())
noncomputable def L97_2_it : LoopIt := ⟨97, 2, none, L97_2_T, [(.exit 0, L97_2_Xexit0)], 0, fun n x => L97_2 n x.1.1 x.1.2.1⟩
theorem L97_2_Xexit0_ok : L97_2_Xexit0.ok Tryz.prog hint := by
  intro p hp
  cases hp
theorem L97_2_T_ok : L97_2_T.ok Tryz.prog hint := by
  intro p hp
  cases hp
theorem L97_2_ok : ∀ n, LoopOK Tryz.prog hint shT L97_2_it n :=
  LoopOK.of (hk := fun β => (Known.mk [] []).hk β) (sh := shT) (OneLoop.of (by kernel_rfl)) L97_2_T_ok ⟨⟨L97_2_Xexit0_ok, Nat.le_refl _, Nat.le_refl _⟩, trivial⟩ (fun m => KnownOK.hook KnownOK.nil m)
    (fun _ => by kernel_rfl) (fun m x => by kernel_rfl)
noncomputable def count (n : Nat) (s : List UInt8) : Option (Int × Unit) :=
 Option.bind (L97_2 (n + 1) s (0 : Int)) fun y12 =>
 some (y12.1.1, ())
noncomputable def count_it : FnIt := ⟨97, [(false, .str)], [(false, (.int .i64))], 1, fun n x => count n x.1⟩
theorem count_ok (n : Nat) : FnOK Tryz.prog hint shT count_it n :=
  FnOK.of (hk := fun β => (Known.mk [] [L97_2_it]).hk β) (sh := shT) (fun m _ => KnownOK.hook (KnownOK.nil.loop L97_2_ok L97_2_T_ok) m) (fun x => by kernel_rfl)
noncomputable def hasPrefixL (_n : Nat) (s : List UInt8) (x : List UInt8) : Option (Bool × Unit) :=
 bif (ile (len x) (len s)) then
  bif (ile (len x) (len s)) then
  some (((List.take ((Int.toNat (len x)) - 0) (List.drop 0 s)) == x), ())
  else none
 else
 some (false, ())
noncomputable def hasPrefixL_it : FnIt := ⟨108, [(false, .str), (false, .str)], [(false, .bool)], 0, fun n x => hasPrefixL n x.1 x.2.1⟩
theorem hasPrefixL_ok (n : Nat) : FnOK Tryz.prog hint shT hasPrefixL_it n :=
  FnOK.of (hk := fun β => (Known.mk [] []).hk β) (sh := shT) (fun m _ => KnownOK.hook KnownOK.nil m) (fun x => by kernel_rfl)
noncomputable def hasPrefix (n : Nat) (s : List UInt8) (x : List UInt8) : Option (Bool × Unit) :=
 Option.bind (hasPrefixL n s x) fun y0 =>
 some (y0.1, ())
noncomputable def hasPrefix_it : FnIt := ⟨88, [(false, .str), (false, .str)], [(false, .bool)], 1, fun n x => hasPrefix n x.1 x.2.1⟩
theorem hasPrefix_ok (n : Nat) : FnOK Tryz.prog hint shT hasPrefix_it n :=
  FnOK.of (hk := fun β => (Known.mk [hasPrefixL_it] []).hk β) (sh := shT) (fun m _ => KnownOK.hook (KnownOK.nil.fn hasPrefixL_ok) m) (fun x => by kernel_rfl)
noncomputable def trimPrefix (n : Nat) (s : List UInt8) (x : List UInt8) : Option ((List UInt8) × Unit) :=
 Option.bind (hasPrefixL n s x) fun y0 =>
 bif y0.1 then
  bif (ile (len x) (len s)) then
  some ((List.take ((List.length s) - (Int.toNat (len x))) (List.drop (Int.toNat (len x)) s)), ())
  else none
 else
 some (s, ())
noncomputable def trimPrefix_it : FnIt := ⟨89, [(false, .str), (false, .str)], [(false, .str)], 2, fun n x => trimPrefix n x.1 x.2.1⟩
theorem trimPrefix_ok (n : Nat) : FnOK Tryz.prog hint shT trimPrefix_it n :=
  FnOK.of (hk := fun β => (Known.mk [hasPrefixL_it] []).hk β) (sh := shT) (fun m _ => KnownOK.hook (KnownOK.nil.fn hasPrefixL_ok) m) (fun x => by kernel_rfl)
noncomputable def cutPrefix (n : Nat) (s : List UInt8) (x : List UInt8) : Option ((List UInt8) × (Bool × Unit)) :=
 Option.bind (hasPrefixL n s x) fun y0 =>
 bif (!y0.1) then
  some (s, false, ())
 else
 bif (ile (len x) (len s)) then
 some ((List.take ((List.length s) - (Int.toNat (len x))) (List.drop (Int.toNat (len x)) s)), true, ())
 else none
noncomputable def cutPrefix_it : FnIt := ⟨70, [(false, .str), (false, .str)], [(false, .str), (false, .bool)], 2, fun n x => cutPrefix n x.1 x.2.1⟩
theorem cutPrefix_ok (n : Nat) : FnOK Tryz.prog hint shT cutPrefix_it n :=
  FnOK.of (hk := fun β => (Known.mk [hasPrefixL_it] []).hk β) (sh := shT) (fun m _ => KnownOK.hook (KnownOK.nil.fn hasPrefixL_ok) m) (fun x => by kernel_rfl)
noncomputable def signed (n : Nat) (s : List UInt8) : Option ((List UInt8) × (Bool × Unit)) :=
 Option.bind (hasPrefix (n + 1) s ([(45 : UInt8)] : List UInt8)) fun y0 =>
 bif y0.1 then
  bif (ile (1 : Int) (len s)) then
  some ((List.take ((List.length s) - 1) (List.drop 1 s)), true, ())
  else none
 else
 Option.bind (trimPrefix n s ([(43 : UInt8)] : List UInt8)) fun y1 =>
 some (y1.1, false, ())
noncomputable def signed_it : FnIt := ⟨71, [(false, .str)], [(false, .str), (false, .bool)], 3, fun n x => signed n x.1⟩
theorem signed_ok (n : Nat) : FnOK Tryz.prog hint shT signed_it n :=
  FnOK.of (hk := fun β => (Known.mk [trimPrefix_it, hasPrefix_it] []).hk β) (sh := shT) (fun m _ => KnownOK.hook ((KnownOK.nil.fn hasPrefix_ok).fn trimPrefix_ok) m) (fun x => by kernel_rfl)
noncomputable def L112_1_Xexit0 : Tm := ⟨[(0, .one (.str))], [], 64, 64, 1000⟩
noncomputable def L112_1_T : Tm := ⟨[(0, .one (.str)), (1, .one (.byte))], [], 64, 64, 1000⟩
noncomputable def L112_1 : Nat → (List UInt8) → UInt8 → Option (((List UInt8) × Unit) × Unit)
 | 0, _, _ => none
 | n + 1, t0, t1 =>
  Option.bind (bif (ilt (0 : Int) (len t0)) then
    Option.bind (t0[0]?) fun x7 =>
    some (x7 == t1)
   else
   some false) fun b8 =>
  bif b8 then
   bif (ile (1 : Int) (len t0)) then
   L112_1 n (List.take ((List.length t0) - 1) (List.drop 1 t0)) t1
   else none
  else
  some ((t0, ()), ())
noncomputable def L112_1_it : LoopIt := ⟨112, 1, none, L112_1_T, [(.exit 0, L112_1_Xexit0)], 0, fun n x => L112_1 n x.1.1 x.1.2.1⟩
theorem L112_1_Xexit0_ok : L112_1_Xexit0.ok Tryz.prog hint := by
  intro p hp
  cases hp
theorem L112_1_T_ok : L112_1_T.ok Tryz.prog hint := by
  intro p hp
  cases hp
theorem L112_1_ok : ∀ n, LoopOK Tryz.prog hint shT L112_1_it n :=
  LoopOK.of (hk := fun β => (Known.mk [] []).hk β) (sh := shT) (OneLoop.of (by kernel_rfl)) L112_1_T_ok ⟨⟨L112_1_Xexit0_ok, Nat.le_refl _, Nat.le_refl _⟩, trivial⟩ (fun m => KnownOK.hook KnownOK.nil m)
    (fun _ => by kernel_rfl) (fun m x => by kernel_rfl)
noncomputable def trimLeftByte (n : Nat) (s : List UInt8) (c : UInt8) : Option ((List UInt8) × Unit) :=
 Option.bind (L112_1 (n + 1) s c) fun y9 =>
 some (y9.1.1, ())
noncomputable def trimLeftByte_it : FnIt := ⟨112, [(false, .str), (false, .byte)], [(false, .str)], 1, fun n x => trimLeftByte n x.1 x.2.1⟩
theorem trimLeftByte_ok (n : Nat) : FnOK Tryz.prog hint shT trimLeftByte_it n :=
  FnOK.of (hk := fun β => (Known.mk [] [L112_1_it]).hk β) (sh := shT) (fun m _ => KnownOK.hook (KnownOK.nil.loop L112_1_ok L112_1_T_ok) m) (fun x => by kernel_rfl)
noncomputable def L116_1_Xexit0 : Tm := ⟨[(0, .one (.str))], [], 64, 64, 1000⟩
noncomputable def L116_1_T : Tm := ⟨[(0, .one (.str)), (1, .one (.byte))], [], 64, 64, 1000⟩
noncomputable def L116_1 : Nat → (List UInt8) → UInt8 → Option (((List UInt8) × Unit) × Unit)
 | 0, _, _ => none
 | n + 1, t0, t1 =>
  Option.bind (bif (ilt (0 : Int) (len t0)) then
    bif (ile (0 : Int) (IntKind.wrap .i64 ((len t0) - (1 : Int)))) then
    Option.bind (t0[(Int.toNat (IntKind.wrap .i64 ((len t0) - (1 : Int))))]?) fun x7 =>
    some (x7 == t1)
    else none
   else
   some false) fun b8 =>
  bif b8 then
   bif ((ile (0 : Int) (IntKind.wrap .i64 ((len t0) - (1 : Int)))) && (ile (IntKind.wrap .i64 ((len t0) - (1 : Int))) (len t0))) then
   L116_1 n (List.take ((Int.toNat (IntKind.wrap .i64 ((len t0) - (1 : Int)))) - 0) (List.drop 0 t0)) t1
   else none
  else
  some ((t0, ()), ())
noncomputable def L116_1_it : LoopIt := ⟨116, 1, none, L116_1_T, [(.exit 0, L116_1_Xexit0)], 0, fun n x => L116_1 n x.1.1 x.1.2.1⟩
theorem L116_1_Xexit0_ok : L116_1_Xexit0.ok Tryz.prog hint := by
  intro p hp
  cases hp
theorem L116_1_T_ok : L116_1_T.ok Tryz.prog hint := by
  intro p hp
  cases hp
theorem L116_1_ok : ∀ n, LoopOK Tryz.prog hint shT L116_1_it n :=
  LoopOK.of (hk := fun β => (Known.mk [] []).hk β) (sh := shT) (OneLoop.of (by kernel_rfl)) L116_1_T_ok ⟨⟨L116_1_Xexit0_ok, Nat.le_refl _, Nat.le_refl _⟩, trivial⟩ (fun m => KnownOK.hook KnownOK.nil m)
    (fun _ => by kernel_rfl) (fun m x => by kernel_rfl)
noncomputable def trimRightByte (n : Nat) (s : List UInt8) (c : UInt8) : Option ((List UInt8) × Unit) :=
 Option.bind (L116_1 (n + 1) s c) fun y9 =>
 some (y9.1.1, ())
noncomputable def trimRightByte_it : FnIt := ⟨116, [(false, .str), (false, .byte)], [(false, .str)], 1, fun n x => trimRightByte n x.1 x.2.1⟩
theorem trimRightByte_ok (n : Nat) : FnOK Tryz.prog hint shT trimRightByte_it n :=
  FnOK.of (hk := fun β => (Known.mk [] [L116_1_it]).hk β) (sh := shT) (fun m _ => KnownOK.hook (KnownOK.nil.loop L116_1_ok L116_1_T_ok) m) (fun x => by kernel_rfl)
noncomputable def whole (n : Nat) (below : Bool) (d : List UInt8) (exp : Int) : Option ((Bool × (List UInt8 × (Int × Int))) × Unit) :=
 Option.bind (bif (d == ([] : List UInt8)) then
   some true
  else
  some false) fun b1 =>
 bif b1 then
  Option.bind (bif (d == ([] : List UInt8)) then
    some true
   else
   some false) fun b3 =>
  bif b3 then
   bif (d == ([] : List UInt8)) then
    some ((below, (([(48 : UInt8)] : List UInt8), ((0 : Int), (0 : Int)))), ())
   else
   some ((below, (d, ((IntKind.wrap .i64 ((IntKind.wrap .i64 (exp + (len d))) - (len d))), (0 : Int)))), ())
  else
  Option.bind (trimRightByte n d (48 : UInt8)) fun y5 =>
  bif (y5.1 == ([] : List UInt8)) then
   some ((below, (([(48 : UInt8)] : List UInt8), ((0 : Int), (0 : Int)))), ())
  else
  some ((below, (y5.1, ((IntKind.wrap .i64 ((IntKind.wrap .i64 (exp + (len d))) - (len y5.1))), (0 : Int)))), ())
 else
 Option.bind (trimLeftByte n d (48 : UInt8)) fun y7 =>
 Option.bind (bif (y7.1 == ([] : List UInt8)) then
   some true
  else
  some false) fun b9 =>
 bif b9 then
  bif (y7.1 == ([] : List UInt8)) then
   some ((below, (([(48 : UInt8)] : List UInt8), ((0 : Int), (0 : Int)))), ())
  else
  some ((below, (y7.1, ((IntKind.wrap .i64 ((IntKind.wrap .i64 (exp + (len y7.1))) - (len y7.1))), (0 : Int)))), ())
 else
 Option.bind (trimRightByte n y7.1 (48 : UInt8)) fun y11 =>
 bif (y11.1 == ([] : List UInt8)) then
  some ((below, (([(48 : UInt8)] : List UInt8), ((0 : Int), (0 : Int)))), ())
 else
 some ((below, (y11.1, ((IntKind.wrap .i64 ((IntKind.wrap .i64 (exp + (len y7.1))) - (len y11.1))), (0 : Int)))), ())
noncomputable def whole_it : FnIt := ⟨73, [(false, .bool), (false, .str), (false, (.int .i64))], [(true, (.cons .bool (.cons .str (.cons (.int .i64) (.int .i64)))))], 3, fun n x => whole n x.1 x.2.1 x.2.2.1⟩
theorem whole_ok (n : Nat) : FnOK Tryz.prog hint shT whole_it n :=
  FnOK.of (hk := fun β => (Known.mk [trimLeftByte_it, trimRightByte_it] []).hk β) (sh := shT) (fun m _ => KnownOK.hook ((KnownOK.nil.fn trimRightByte_ok).fn trimLeftByte_ok) m) (fun x => by kernel_rfl)
noncomputable def L91_3_Xexit0 : Tm := ⟨[(7, .one (.all 64 3 (.int .i64) true))], [], 64, 65, 1000⟩
noncomputable def L91_3_T : Tm := ⟨[(0, .one (.lst (.int .i64))), (1, .one (.int .i64)), (2, .one (.int .i64)), (7, .one (.all 64 3 (.int .i64) true)), (8, .one (.int .i64))], [], 64, 65, 1000⟩
noncomputable def L91_3 : Nat → (List Int) → Int → Int → (List Int) → Int → Option (((List Int) × Unit) × Unit)
 | 0, _, _, _, _, _ => none
 | n + 1, t0, t1, t2, t7, t8 =>
  Option.bind (bif (ilt t8 (len t0)) then
    some true
   else
   some (ilt (0 : Int) t2)) fun b10 =>
  bif b10 then
   bif (ilt t8 (len t0)) then
    bif (ile (0 : Int) t8) then
    Option.bind (t0[(Int.toNat t8)]?) fun x11 =>
    bif (room (((List.length t7) + (List.length ((Int.tmod (IntKind.wrap .i64 (t2 + (IntKind.wrap .i64 (x11 * t1)))) (10 : Int)) :: ([] : List Int)))) * 9)) then
    L91_3 n t0 t1 (IntKind.wrap .i64 (Int.tdiv (IntKind.wrap .i64 (t2 + (IntKind.wrap .i64 (x11 * t1)))) (10 : Int))) (t7 ++ ((Int.tmod (IntKind.wrap .i64 (t2 + (IntKind.wrap .i64 (x11 * t1)))) (10 : Int)) :: ([] : List Int))) (IntKind.wrap .i64 (t8 + (1 : Int)))
    else none
    else none
   else
   bif (room (((List.length t7) + (List.length ((Int.tmod (IntKind.wrap .i64 (t2 + (IntKind.wrap .i64 ((0 : Int) * t1)))) (10 : Int)) :: ([] : List Int)))) * 9)) then
   L91_3 n t0 t1 (IntKind.wrap .i64 (Int.tdiv (IntKind.wrap .i64 (t2 + (IntKind.wrap .i64 ((0 : Int) * t1)))) (10 : Int))) (t7 ++ ((Int.tmod (IntKind.wrap .i64 (t2 + (IntKind.wrap .i64 ((0 : Int) * t1)))) (10 : Int)) :: ([] : List Int))) (IntKind.wrap .i64 (t8 + (1 : Int)))
   else none
  else
  some ((t7, ()), ())
noncomputable def L91_3_it : LoopIt := ⟨91, 3, none, L91_3_T, [(.exit 0, L91_3_Xexit0)], 1, fun n x => L91_3 n x.1.1 x.1.2.1 x.1.2.2.1 x.1.2.2.2.1 x.1.2.2.2.2.1⟩
theorem L91_3_Xexit0_ok : L91_3_Xexit0.ok Tryz.prog hint := by
  intro p hp
  cases hp
theorem L91_3_T_ok : L91_3_T.ok Tryz.prog hint := by
  intro p hp
  cases hp
theorem L91_3_ok : ∀ n, LoopOK Tryz.prog hint shT L91_3_it n :=
  LoopOK.of (hk := fun β => (Known.mk [] []).hk β) (sh := shT) (OneLoop.of (by kernel_rfl)) L91_3_T_ok ⟨⟨L91_3_Xexit0_ok, Nat.le_refl _, Nat.le_refl _⟩, trivial⟩ (fun m => KnownOK.hook KnownOK.nil m)
    (fun _ => by kernel_rfl) (fun m x => by kernel_rfl)
noncomputable def times (n : Nat) (l : List Int) (k : Int) (more : Int) : Option ((List Int) × Unit) :=
 Option.bind (L91_3 n l k more ([] : List Int) (0 : Int)) fun y12 =>
 some (y12.1.1, ())
noncomputable def times_it : FnIt := ⟨91, [(false, (.slc (.int .i64))), (false, (.int .i64)), (false, (.int .i64))], [(false, (.slc (.int .i64)))], 1, fun n x => times n x.1 x.2.1 x.2.2.1⟩
theorem times_ok (n : Nat) : FnOK Tryz.prog hint shT times_it n :=
  FnOK.of (hk := fun β => (Known.mk [] [L91_3_it]).hk β) (sh := shT) (fun m _ => KnownOK.hook (KnownOK.nil.loop L91_3_ok L91_3_T_ok) m) (fun x => by kernel_rfl)
noncomputable def L92_5_Xexit0 : Tm := ⟨[(3, .one (.all 64 3 (.int .i64) true))], [], 64, 65, 1000⟩
noncomputable def L92_5_Xret : Tm := ⟨[(2, .one (.fix (TV.raw (Go.Value.slice (Option.none) 0 0))))], [], 64, 64, 1000⟩
noncomputable def L92_5_T : Tm := ⟨[(0, .one (.str)), (3, .one (.all 64 3 (.int .i64) true)), (4, .one (.int .i64))], [], 64, 65, 1000⟩
noncomputable def L92_5 : Nat → (List UInt8) → (List Int) → Int → Option ((((List Int) × Unit) × Unit) ⊕ ((Unit × Unit) × Unit))
 | 0, _, _, _ => none
 | n + 1, t0, t3, t4 =>
  bif (ile (0 : Int) t4) then
   bif (ile (0 : Int) t4) then
   Option.bind (t0[(Int.toNat t4)]?) fun x9 =>
   Option.bind (bif (ilt (IntKind.wrap .i64 ((IntKind.wrap .i64 (ub x9)) - (48 : Int))) (0 : Int)) then
     some true
    else
    some (ile (10 : Int) (IntKind.wrap .i64 ((IntKind.wrap .i64 (ub x9)) - (48 : Int))))) fun b11 =>
   bif b11 then
    some (.inr (((), ()), ()))
   else
   bif (room (((List.length t3) + (List.length ((IntKind.wrap .i64 ((IntKind.wrap .i64 (ub x9)) - (48 : Int))) :: ([] : List Int)))) * 9)) then
   L92_5 n t0 (t3 ++ ((IntKind.wrap .i64 ((IntKind.wrap .i64 (ub x9)) - (48 : Int))) :: ([] : List Int))) (IntKind.wrap .i64 (t4 - (1 : Int)))
   else none
   else none
  else
  some (.inl ((t3, ()), ()))
noncomputable def L92_5_it : LoopIt := ⟨92, 5, none, L92_5_T, [(.exit 0, L92_5_Xexit0), (.ret, L92_5_Xret)], 0, fun n x => L92_5 n x.1.1 x.1.2.1 x.1.2.2.1⟩
theorem L92_5_Xexit0_ok : L92_5_Xexit0.ok Tryz.prog hint := by
  intro p hp
  cases hp
theorem L92_5_Xret_ok : L92_5_Xret.ok Tryz.prog hint := by
  intro p hp
  cases hp
theorem L92_5_T_ok : L92_5_T.ok Tryz.prog hint := by
  intro p hp
  cases hp
theorem L92_5_ok : ∀ n, LoopOK Tryz.prog hint shT L92_5_it n :=
  LoopOK.of (hk := fun β => (Known.mk [] []).hk β) (sh := shT) (OneLoop.of (by kernel_rfl)) L92_5_T_ok ⟨⟨L92_5_Xexit0_ok, Nat.le_refl _, Nat.le_refl _⟩, ⟨L92_5_Xret_ok, Nat.le_refl _, Nat.le_refl _⟩, trivial⟩ (fun m => KnownOK.hook KnownOK.nil m)
    (fun _ => by kernel_rfl) (fun m x => by kernel_rfl)
noncomputable def of (n : Nat) (s : List UInt8) : Option ((List Int) × Unit) :=
 bif (ilt (5000 : Int) (len s)) then
  some (([] : List Int), ())
 else
 Option.bind (L92_5 (n + 1) s ([] : List Int) (IntKind.wrap .i64 ((len s) - (1 : Int)))) fun y12 =>
 match y12 with
  | .inl y13 =>
   some (y13.1.1, ())
  | .inr _ =>
   some (([] : List Int), ())
noncomputable def of_it : FnIt := ⟨92, [(false, .str)], [(false, (.slc (.int .i64)))], 1, fun n x => of n x.1⟩
theorem of_ok (n : Nat) : FnOK Tryz.prog hint shT of_it n :=
  FnOK.of (hk := fun β => (Known.mk [] [L92_5_it]).hk β) (sh := shT) (fun m _ => KnownOK.hook (KnownOK.nil.loop L92_5_ok L92_5_T_ok) m) (fun x => by kernel_rfl)
noncomputable def L93_3_Xexit0 : Tm := ⟨[(3, .one (.fix (TV.ptr 64 0)))], [(64, .cells 68 [.fix (TV.ptr 64 0), .all 67 5 .byte true] true)], 67, 68, 1005⟩
noncomputable def L93_3_T : Tm := ⟨[(0, .one (.lst (.int .i64))), (3, .one (.fix (TV.ptr 64 0))), (4, .one (.int .i64))], [(64, .cells 68 [.fix (TV.ptr 64 0), .all 67 5 .byte true] true)], 67, 68, 1005⟩
noncomputable def L93_3 : Nat → (List Int) → Int → (List UInt8) → Option ((Unit × Unit) × ((Unit × ((List UInt8) × Unit)) × Unit))
 | 0, _, _, _ => none
 | n + 1, t0, t4, c64_1 =>
  bif (ile (0 : Int) t4) then
   bif (ile (0 : Int) t4) then
   Option.bind (t0[(Int.toNat t4)]?) fun x3 =>
   bif (room (((List.length c64_1) + (List.length ((UInt8.ofNat (Int.toNat (IntKind.wrap Go.IntKind.u8 (IntKind.wrap .i64 ((48 : Int) + x3))))) :: ([] : List UInt8)))) * 2)) then
   L93_3 n t0 (IntKind.wrap .i64 (t4 - (1 : Int))) (c64_1 ++ ((UInt8.ofNat (Int.toNat (IntKind.wrap Go.IntKind.u8 (IntKind.wrap .i64 ((48 : Int) + x3))))) :: ([] : List UInt8)))
   else none
   else none
  else
  some (((), ()), (((), (c64_1, ())), ()))
noncomputable def L93_3_it : LoopIt := ⟨93, 3, none, L93_3_T, [(.exit 0, L93_3_Xexit0)], 2, fun n x => L93_3 n x.1.1 x.1.2.2.1 x.2.1.2.1⟩
theorem L93_3_Xexit0_ok : L93_3_Xexit0.ok Tryz.prog hint := by
  intro p hp
  simp only [L93_3_Xexit0, List.mem_cons, List.not_mem_nil, or_false] at hp
  rcases hp with rfl
  · trivial
theorem L93_3_T_ok : L93_3_T.ok Tryz.prog hint := by
  intro p hp
  simp only [L93_3_T, List.mem_cons, List.not_mem_nil, or_false] at hp
  rcases hp with rfl
  · trivial
theorem L93_3_ok : ∀ n, LoopOK Tryz.prog hint shT L93_3_it n :=
  LoopOK.of (hk := fun β => (Known.mk [] []).hk β) (sh := shT) (OneLoop.of (by kernel_rfl)) L93_3_T_ok ⟨⟨L93_3_Xexit0_ok, Nat.le_refl _, Nat.le_refl _⟩, trivial⟩ (fun m => KnownOK.hook KnownOK.nil m)
    (fun _ => by kernel_rfl) (fun m x => by kernel_rfl)
noncomputable def text (n : Nat) (l : List Int) : Option ((List UInt8) × Unit) :=
 bif (ile (0 : Int) (IntKind.wrap .i64 ((len l) - (1 : Int)))) then
  bif (ile (0 : Int) (IntKind.wrap .i64 ((len l) - (1 : Int)))) then
  Option.bind (l[(Int.toNat (IntKind.wrap .i64 ((len l) - (1 : Int))))]?) fun x0 =>
  Option.bind (L93_3 n l (IntKind.wrap .i64 ((IntKind.wrap .i64 ((len l) - (1 : Int))) - (1 : Int))) ((UInt8.ofNat (Int.toNat (IntKind.wrap Go.IntKind.u8 (IntKind.wrap .i64 ((48 : Int) + x0))))) :: ([] : List UInt8))) fun y4 =>
  bif (List.isEmpty y4.2.1.2.1) then
   bif ((len y4.2.1.2.1) == (0 : Int)) then
   some (([(48 : UInt8)] : List UInt8), ())
   else none
  else
  bif ((ile (len y4.2.1.2.1) (len y4.2.1.2.1)) && (ile (len y4.2.1.2.1) (1099511627776 : Int))) then
  Option.bind (bif ((List.take (Int.toNat (len y4.2.1.2.1)) y4.2.1.2.1) == ([] : List UInt8)) then
    some true
   else
   some false) fun b7 =>
  bif b7 then
   bif (!((List.take (Int.toNat (len y4.2.1.2.1)) y4.2.1.2.1) == ([] : List UInt8))) then
    some ((List.take (Int.toNat (len y4.2.1.2.1)) y4.2.1.2.1), ())
   else
   some (([(48 : UInt8)] : List UInt8), ())
  else
  Option.bind (trimLeftByte n (List.take (Int.toNat (len y4.2.1.2.1)) y4.2.1.2.1) (48 : UInt8)) fun y9 =>
  bif (!(y9.1 == ([] : List UInt8))) then
   some (y9.1, ())
  else
  some (([(48 : UInt8)] : List UInt8), ())
  else none
  else none
 else
 some (([(48 : UInt8)] : List UInt8), ())
noncomputable def text_it : FnIt := ⟨93, [(false, (.slc (.int .i64)))], [(false, .str)], 3, fun n x => text n x.1⟩
theorem text_ok (n : Nat) : FnOK Tryz.prog hint shT text_it n :=
  FnOK.of (hk := fun β => (Known.mk [trimLeftByte_it] [L93_3_it]).hk β) (sh := shT) (fun m _ => KnownOK.hook ((KnownOK.nil.loop L93_3_ok L93_3_T_ok).fn trimLeftByte_ok) m) (fun x => by kernel_rfl)
noncomputable def L72_5_Xexit0 : Tm := ⟨[(0, .one (.str)), (1, .one (.int .i64)), (6, .one (.lst (.int .i64)))], [], 64, 64, 1000⟩
noncomputable def L72_5_Xret : Tm := ⟨[(4, .one (.str)), (5, .one (.bool))], [], 64, 64, 1000⟩
noncomputable def L72_5_T : Tm := ⟨[(0, .one (.str)), (1, .one (.int .i64)), (6, .one (.lst (.int .i64))), (30, .one (.lst .byte)), (31, .one (.int .i64)), (32, .one (.int .i64))], [], 64, 64, 1000⟩
noncomputable def L72_5 : Nat → (List UInt8) → Int → (List Int) → (List UInt8) → Int → Int → Option ((((List UInt8) × (Int × ((List Int) × Unit))) × Unit) ⊕ (((List UInt8) × (Bool × Unit)) × Unit))
 | 0, _, _, _, _, _, _ => none
 | n + 1, t0, t1, t6, t30, t31, t32 =>
  bif (ilt t32 t31) then
   bif (ile (0 : Int) t32) then
   Option.bind (t30[(Int.toNat t32)]?) fun x17 =>
   Option.bind (hex (n + 1) (IntKind.wrap .i64 (ub x17))) fun y18 =>
   Option.bind (bif (ilt y18.1 (0 : Int)) then
     some true
    else
    some (ile t1 y18.1)) fun b20 =>
   bif b20 then
    some (.inr ((([] : List UInt8), (false, ())), ()))
   else
   bif (t1 != (10 : Int)) then
    Option.bind (times (n + 1) t6 t1 y18.1) fun y21 =>
    L72_5 n t0 t1 y21.1 t30 t31 (IntKind.wrap .i64 (t32 + (1 : Int)))
   else
   L72_5 n t0 t1 t6 t30 t31 (IntKind.wrap .i64 (t32 + (1 : Int)))
   else none
  else
  some (.inl ((t0, (t1, (t6, ()))), ()))
noncomputable def L72_5_it : LoopIt := ⟨72, 5, none, L72_5_T, [(.exit 0, L72_5_Xexit0), (.ret, L72_5_Xret)], 2, fun n x => L72_5 n x.1.1 x.1.2.1 x.1.2.2.1 x.1.2.2.2.1 x.1.2.2.2.2.1 x.1.2.2.2.2.2.1⟩
theorem L72_5_Xexit0_ok : L72_5_Xexit0.ok Tryz.prog hint := by
  intro p hp
  cases hp
theorem L72_5_Xret_ok : L72_5_Xret.ok Tryz.prog hint := by
  intro p hp
  cases hp
theorem L72_5_T_ok : L72_5_T.ok Tryz.prog hint := by
  intro p hp
  cases hp
theorem L72_5_ok : ∀ n, LoopOK Tryz.prog hint shT L72_5_it n :=
  LoopOK.of (hk := fun β => (Known.mk [times_it, hex_it] []).hk β) (sh := shT) (OneLoop.of (by kernel_rfl)) L72_5_T_ok ⟨⟨L72_5_Xexit0_ok, Nat.le_refl _, Nat.le_refl _⟩, ⟨L72_5_Xret_ok, Nat.le_refl _, Nat.le_refl _⟩, trivial⟩ (fun m => KnownOK.hook ((KnownOK.nil.fn hex_ok).fn times_ok) m)
    (fun _ => by kernel_rfl) (fun m x => by kernel_rfl)
noncomputable def plain (n : Nat) (s : List UInt8) (base : Int) : Option ((List UInt8) × (Bool × Unit)) :=
 Option.bind (bif (s == ([] : List UInt8)) then
   some true
  else
  bif (ilt (5000 : Int) (len s)) then
   some true
  else
  bif (base != (8 : Int)) then
   bif (base != (10 : Int)) then
    some (base != (16 : Int))
   else
   some false
  else
  some false) fun b1 =>
 bif b1 then
  some (([] : List UInt8), false, ())
 else
 Option.bind (L72_5 (n + 2) s base ([] : List Int) s (len s) (0 : Int)) fun y22 =>
 match y22 with
  | .inl y23 =>
   bif (y23.1.2.1 == (10 : Int)) then
    Option.bind (of (n + 2) y23.1.1) fun y25 =>
    Option.bind (text n y25.1) fun y26 =>
    some (y26.1, true, ())
   else
   Option.bind (text n y23.1.2.2.1) fun y27 =>
   some (y27.1, true, ())
  | .inr y24 =>
   some (y24.1.1, y24.1.2.1, ())
noncomputable def plain_it : FnIt := ⟨72, [(false, .str), (false, (.int .i64))], [(false, .str), (false, .bool)], 4, fun n x => plain n x.1 x.2.1⟩
theorem plain_ok (n : Nat) : FnOK Tryz.prog hint shT plain_it n :=
  FnOK.of (hk := fun β => (Known.mk [text_it, of_it] [L72_5_it]).hk β) (sh := shT) (fun m _ => KnownOK.hook (((KnownOK.nil.loop L72_5_ok L72_5_T_ok).fn of_ok).fn text_ok) m) (fun x => by kernel_rfl)
noncomputable def int (n : Nat) (s : List UInt8) : Option ((Bool × (List UInt8 × (Int × Int))) × (Bool × Unit)) :=
 Option.bind (cutPrefix (n + 2) s ([(48 : UInt8), (111 : UInt8)] : List UInt8)) fun y0 =>
 bif y0.2.1 then
  Option.bind (plain n y0.1 (8 : Int)) fun y1 =>
  bif (!y1.2.1) then
   some ((false, (([] : List UInt8), ((0 : Int), (0 : Int)))), false, ())
  else
  Option.bind (whole (n + 1) false y1.1 (0 : Int)) fun y2 =>
  bif y2.1.1 then
   some (((!(y2.1.2.1 == ([(48 : UInt8)] : List UInt8))), (y2.1.2.1, (y2.1.2.2.1, y2.1.2.2.2))), true, ())
  else
  some ((false, (y2.1.2.1, (y2.1.2.2.1, y2.1.2.2.2))), true, ())
 else
 Option.bind (cutPrefix (n + 2) s ([(48 : UInt8), (120 : UInt8)] : List UInt8)) fun y3 =>
 bif y3.2.1 then
  Option.bind (plain n y3.1 (16 : Int)) fun y4 =>
  bif (!y4.2.1) then
   some ((false, (([] : List UInt8), ((0 : Int), (0 : Int)))), false, ())
  else
  Option.bind (whole (n + 1) false y4.1 (0 : Int)) fun y5 =>
  bif y5.1.1 then
   some (((!(y5.1.2.1 == ([(48 : UInt8)] : List UInt8))), (y5.1.2.1, (y5.1.2.2.1, y5.1.2.2.2))), true, ())
  else
  some ((false, (y5.1.2.1, (y5.1.2.2.1, y5.1.2.2.2))), true, ())
 else
 Option.bind (signed (n + 1) s) fun y6 =>
 Option.bind (plain n y6.1 (10 : Int)) fun y7 =>
 bif (!y7.2.1) then
  some ((false, (([] : List UInt8), ((0 : Int), (0 : Int)))), false, ())
 else
 Option.bind (whole (n + 1) y6.2.1 y7.1 (0 : Int)) fun y8 =>
 bif y8.1.1 then
  some (((!(y8.1.2.1 == ([(48 : UInt8)] : List UInt8))), (y8.1.2.1, (y8.1.2.2.1, y8.1.2.2.2))), true, ())
 else
 some ((false, (y8.1.2.1, (y8.1.2.2.1, y8.1.2.2.2))), true, ())
noncomputable def int_it : FnIt := ⟨55, [(false, .str)], [(true, (.cons .bool (.cons .str (.cons (.int .i64) (.int .i64))))), (false, .bool)], 5, fun n x => int n x.1⟩
theorem int_ok (n : Nat) : FnOK Tryz.prog hint shT int_it n :=
  FnOK.of (hk := fun β => (Known.mk [signed_it, whole_it, plain_it, cutPrefix_it] []).hk β) (sh := shT) (fun m _ => KnownOK.hook ((((KnownOK.nil.fn cutPrefix_ok).fn plain_ok).fn whole_ok).fn signed_ok) m) (fun x => by kernel_rfl)
end Go.Proofs.YtnddpppljnjmcaaGreatDoor
/- Plain functions for the program's. -/
namespace Go.Proofs.YtnddpppljnjmcaaGreatDoor
open Go Go.Iv Go.Gv
set_option maxRecDepth 100000
set_option linter.unusedVariables false
noncomputable def L126_10_Xexit0 : Tm := ⟨[(5, .one (.str)), (6, .one (.int .i64))], [], 64, 64, 1000⟩
noncomputable def L126_10_T : Tm := ⟨[(5, .one (.str)), (6, .one (.int .i64)), (47, .one (.lst .byte)), (48, .one (.int .i64)), (49, .one (.int .i64))], [], 64, 64, 1000⟩
noncomputable def L126_10 : Nat → (List UInt8) → Int → (List UInt8) → Int → Int → Option (((List UInt8) × (Int × Unit)) × Unit)
 | 0, _, _, _, _, _ => none
 | n + 1, t5, t6, t47, t48, t49 =>
  bif (ilt t49 t48) then
   bif (ile (0 : Int) t49) then
   Option.bind (t47[(Int.toNat t49)]?) fun x14 =>
   bif (Nat.blt (UInt8.toNat (9 : UInt8)) (UInt8.toNat (x14 - (48 : UInt8)))) then
    none
   else
   L126_10 n t5 (IntKind.wrap .i64 ((IntKind.wrap .i64 (t6 * (10 : Int))) + (IntKind.wrap .i64 (ub (x14 - (48 : UInt8)))))) t47 t48 (IntKind.wrap .i64 (t49 + (1 : Int)))
   else none
  else
  some ((t5, (t6, ())), ())
noncomputable def L126_10_it : LoopIt := ⟨126, 10, none, L126_10_T, [(.exit 0, L126_10_Xexit0)], 0, fun n x => L126_10 n x.1.1 x.1.2.1 x.1.2.2.1 x.1.2.2.2.1 x.1.2.2.2.2.1⟩
theorem L126_10_Xexit0_ok : L126_10_Xexit0.ok Tryz.prog hint := by
  intro p hp
  cases hp
theorem L126_10_T_ok : L126_10_T.ok Tryz.prog hint := by
  intro p hp
  cases hp
theorem L126_10_ok : ∀ n, LoopOK Tryz.prog hint shT L126_10_it n :=
  LoopOK.of (hk := fun β => (Known.mk [] []).hk β) (sh := shT) (OneLoop.of (by kernel_rfl)) L126_10_T_ok ⟨⟨L126_10_Xexit0_ok, Nat.le_refl _, Nat.le_refl _⟩, trivial⟩ (fun m => KnownOK.hook KnownOK.nil m)
    (fun _ => by kernel_rfl) (fun m x => by kernel_rfl)
noncomputable def L140_36_Xexit3 : Tm := ⟨[(9, .one (.str)), (12, .one (.bool)), (13, .one (.int .u64))], [], 64, 64, 1000⟩
noncomputable def L140_36_T : Tm := ⟨[(1, .one (.int .i64)), (8, .one (.bool)), (9, .one (.str)), (10, .one (.int .u64)), (11, .one (.int .u64)), (12, .one (.bool)), (13, .one (.int .u64)), (99, .one (.lst .byte)), (100, .one (.int .i64)), (101, .one (.int .i64))], [], 64, 64, 1000⟩
noncomputable def L140_36 : Nat → Int → Bool → (List UInt8) → Int → Int → Bool → Int → (List UInt8) → Int → Int → Option (((List UInt8) × (Bool × (Int × Unit))) × Unit)
 | 0, _, _, _, _, _, _, _, _, _, _ => none
 | n + 1, t1, t8, t9, t10, t11, t12, t13, t99, t100, t101 =>
  bif (ilt t101 t100) then
   bif (ile (0 : Int) t101) then
   Option.bind (t99[(Int.toNat t101)]?) fun x39 =>
   Option.bind (bif (x39 == (95 : UInt8)) then
     some t8
    else
    some false) fun b41 =>
   bif b41 then
    L140_36 n t1 t8 t9 t10 t11 true t13 t99 t100 (IntKind.wrap .i64 (t101 + (1 : Int)))
   else
   Option.bind (bif (Nat.ble (UInt8.toNat (48 : UInt8)) (UInt8.toNat x39)) then
     some (Nat.ble (UInt8.toNat x39) (UInt8.toNat (57 : UInt8)))
    else
    some false) fun b43 =>
   bif b43 then
    bif (Nat.ble (UInt8.toNat (UInt8.ofNat (Int.toNat (IntKind.wrap Go.IntKind.u8 t1)))) (UInt8.toNat (x39 - (48 : UInt8)))) then
     none
    else
    bif (ile t10 t13) then
     none
    else
    Option.bind (bif (ilt (IntKind.wrap Go.IntKind.u64 ((IntKind.wrap Go.IntKind.u64 (t13 * (IntKind.wrap Go.IntKind.u64 t1))) + (IntKind.wrap Go.IntKind.u64 (ub (x39 - (48 : UInt8)))))) (IntKind.wrap Go.IntKind.u64 (t13 * (IntKind.wrap Go.IntKind.u64 t1)))) then
      some true
     else
     some (ilt t11 (IntKind.wrap Go.IntKind.u64 ((IntKind.wrap Go.IntKind.u64 (t13 * (IntKind.wrap Go.IntKind.u64 t1))) + (IntKind.wrap Go.IntKind.u64 (ub (x39 - (48 : UInt8)))))))) fun b45 =>
    bif b45 then
     none
    else
    L140_36 n t1 t8 t9 t10 t11 t12 (IntKind.wrap Go.IntKind.u64 ((IntKind.wrap Go.IntKind.u64 (t13 * (IntKind.wrap Go.IntKind.u64 t1))) + (IntKind.wrap Go.IntKind.u64 (ub (x39 - (48 : UInt8)))))) t99 t100 (IntKind.wrap .i64 (t101 + (1 : Int)))
   else
   bif (Nat.ble (UInt8.toNat (97 : UInt8)) (UInt8.toNat (x39 ||| (32 : UInt8)))) then
    bif (Nat.ble (UInt8.toNat (x39 ||| (32 : UInt8))) (UInt8.toNat (122 : UInt8))) then
     bif (Nat.ble (UInt8.toNat (UInt8.ofNat (Int.toNat (IntKind.wrap Go.IntKind.u8 t1)))) (UInt8.toNat (((x39 ||| (32 : UInt8)) - (97 : UInt8)) + (10 : UInt8)))) then
      none
     else
     bif (ile t10 t13) then
      none
     else
     Option.bind (bif (ilt (IntKind.wrap Go.IntKind.u64 ((IntKind.wrap Go.IntKind.u64 (t13 * (IntKind.wrap Go.IntKind.u64 t1))) + (IntKind.wrap Go.IntKind.u64 (ub (((x39 ||| (32 : UInt8)) - (97 : UInt8)) + (10 : UInt8)))))) (IntKind.wrap Go.IntKind.u64 (t13 * (IntKind.wrap Go.IntKind.u64 t1)))) then
       some true
      else
      some (ilt t11 (IntKind.wrap Go.IntKind.u64 ((IntKind.wrap Go.IntKind.u64 (t13 * (IntKind.wrap Go.IntKind.u64 t1))) + (IntKind.wrap Go.IntKind.u64 (ub (((x39 ||| (32 : UInt8)) - (97 : UInt8)) + (10 : UInt8)))))))) fun b47 =>
     bif b47 then
      none
     else
     L140_36 n t1 t8 t9 t10 t11 t12 (IntKind.wrap Go.IntKind.u64 ((IntKind.wrap Go.IntKind.u64 (t13 * (IntKind.wrap Go.IntKind.u64 t1))) + (IntKind.wrap Go.IntKind.u64 (ub (((x39 ||| (32 : UInt8)) - (97 : UInt8)) + (10 : UInt8)))))) t99 t100 (IntKind.wrap .i64 (t101 + (1 : Int)))
    else
    none
   else
   none
   else none
  else
  some ((t9, (t12, (t13, ()))), ())
noncomputable def L140_36_it : LoopIt := ⟨140, 36, none, L140_36_T, [(.exit 3, L140_36_Xexit3)], 1, fun n x => L140_36 n x.1.1 x.1.2.1 x.1.2.2.1 x.1.2.2.2.1 x.1.2.2.2.2.1 x.1.2.2.2.2.2.1 x.1.2.2.2.2.2.2.1 x.1.2.2.2.2.2.2.2.1 x.1.2.2.2.2.2.2.2.2.1 x.1.2.2.2.2.2.2.2.2.2.1⟩
theorem L140_36_Xexit3_ok : L140_36_Xexit3.ok Tryz.prog hint := by
  intro p hp
  cases hp
theorem L140_36_T_ok : L140_36_T.ok Tryz.prog hint := by
  intro p hp
  cases hp
theorem L140_36_ok : ∀ n, LoopOK Tryz.prog hint shT L140_36_it n :=
  LoopOK.of (hk := fun β => (Known.mk [] []).hk β) (sh := shT) (OneLoop.of (by kernel_rfl)) L140_36_T_ok ⟨⟨L140_36_Xexit3_ok, Nat.le_refl _, Nat.le_refl _⟩, trivial⟩ (fun m => KnownOK.hook KnownOK.nil m)
    (fun _ => by kernel_rfl) (fun m x => by kernel_rfl)
noncomputable def L145_10_Xexit0 : Tm := ⟨[(3, .one (.int .i32))], [], 64, 64, 2001⟩
noncomputable def L145_10_Xret : Tm := ⟨[(2, .one (.bool))], [], 64, 64, 2001⟩
noncomputable def L145_10_T : Tm := ⟨[(0, .one (.str)), (3, .one (.int .i32)), (4, .one (.int .i64)), (5, .one (.bool))], [], 64, 64, 2001⟩
noncomputable def L145_10 : Nat → (List UInt8) → Int → Int → Bool → Option (((Int × Unit) × Unit) ⊕ ((Bool × Unit) × Unit))
 | 0, _, _, _, _ => none
 | n + 1, t0, t3, t4, t5 =>
  bif (ilt t4 (len t0)) then
   bif (ile (0 : Int) t4) then
   Option.bind (t0[(Int.toNat t4)]?) fun x80 =>
   bif (Nat.ble (UInt8.toNat (48 : UInt8)) (UInt8.toNat x80)) then
    bif (ile (0 : Int) t4) then
    Option.bind (t0[(Int.toNat t4)]?) fun x81 =>
    bif (Nat.ble (UInt8.toNat x81) (UInt8.toNat (57 : UInt8))) then
     L145_10 n t0 (48 : Int) (IntKind.wrap .i64 (t4 + (1 : Int))) t5
    else
    bif t5 then
     bif (ile (0 : Int) t4) then
     Option.bind (t0[(Int.toNat t4)]?) fun x82 =>
     bif (Nat.ble (UInt8.toNat (97 : UInt8)) (UInt8.toNat (x82 ||| (32 : UInt8)))) then
      bif (ile (0 : Int) t4) then
      Option.bind (t0[(Int.toNat t4)]?) fun x83 =>
      bif (Nat.ble (UInt8.toNat (x83 ||| (32 : UInt8))) (UInt8.toNat (102 : UInt8))) then
       L145_10 n t0 (48 : Int) (IntKind.wrap .i64 (t4 + (1 : Int))) t5
      else
      bif (ile (0 : Int) t4) then
      Option.bind (t0[(Int.toNat t4)]?) fun x84 =>
      bif (x84 == (95 : UInt8)) then
       bif (t3 != (48 : Int)) then
        some (.inr ((false, ()), ()))
       else
       L145_10 n t0 (95 : Int) (IntKind.wrap .i64 (t4 + (1 : Int))) t5
      else
      bif (t3 == (95 : Int)) then
       some (.inr ((false, ()), ()))
      else
      L145_10 n t0 (33 : Int) (IntKind.wrap .i64 (t4 + (1 : Int))) t5
      else none
      else none
     else
     bif (ile (0 : Int) t4) then
     Option.bind (t0[(Int.toNat t4)]?) fun x85 =>
     bif (x85 == (95 : UInt8)) then
      bif (t3 != (48 : Int)) then
       some (.inr ((false, ()), ()))
      else
      L145_10 n t0 (95 : Int) (IntKind.wrap .i64 (t4 + (1 : Int))) t5
     else
     bif (t3 == (95 : Int)) then
      some (.inr ((false, ()), ()))
     else
     L145_10 n t0 (33 : Int) (IntKind.wrap .i64 (t4 + (1 : Int))) t5
     else none
     else none
    else
    bif (ile (0 : Int) t4) then
    Option.bind (t0[(Int.toNat t4)]?) fun x86 =>
    bif (x86 == (95 : UInt8)) then
     bif (t3 != (48 : Int)) then
      some (.inr ((false, ()), ()))
     else
     L145_10 n t0 (95 : Int) (IntKind.wrap .i64 (t4 + (1 : Int))) t5
    else
    bif (t3 == (95 : Int)) then
     some (.inr ((false, ()), ()))
    else
    L145_10 n t0 (33 : Int) (IntKind.wrap .i64 (t4 + (1 : Int))) t5
    else none
    else none
   else
   bif t5 then
    bif (ile (0 : Int) t4) then
    Option.bind (t0[(Int.toNat t4)]?) fun x87 =>
    bif (Nat.ble (UInt8.toNat (97 : UInt8)) (UInt8.toNat (x87 ||| (32 : UInt8)))) then
     bif (ile (0 : Int) t4) then
     Option.bind (t0[(Int.toNat t4)]?) fun x88 =>
     bif (Nat.ble (UInt8.toNat (x88 ||| (32 : UInt8))) (UInt8.toNat (102 : UInt8))) then
      L145_10 n t0 (48 : Int) (IntKind.wrap .i64 (t4 + (1 : Int))) t5
     else
     bif (ile (0 : Int) t4) then
     Option.bind (t0[(Int.toNat t4)]?) fun x89 =>
     bif (x89 == (95 : UInt8)) then
      bif (t3 != (48 : Int)) then
       some (.inr ((false, ()), ()))
      else
      L145_10 n t0 (95 : Int) (IntKind.wrap .i64 (t4 + (1 : Int))) t5
     else
     bif (t3 == (95 : Int)) then
      some (.inr ((false, ()), ()))
     else
     L145_10 n t0 (33 : Int) (IntKind.wrap .i64 (t4 + (1 : Int))) t5
     else none
     else none
    else
    bif (ile (0 : Int) t4) then
    Option.bind (t0[(Int.toNat t4)]?) fun x90 =>
    bif (x90 == (95 : UInt8)) then
     bif (t3 != (48 : Int)) then
      some (.inr ((false, ()), ()))
     else
     L145_10 n t0 (95 : Int) (IntKind.wrap .i64 (t4 + (1 : Int))) t5
    else
    bif (t3 == (95 : Int)) then
     some (.inr ((false, ()), ()))
    else
    L145_10 n t0 (33 : Int) (IntKind.wrap .i64 (t4 + (1 : Int))) t5
    else none
    else none
   else
   bif (ile (0 : Int) t4) then
   Option.bind (t0[(Int.toNat t4)]?) fun x91 =>
   bif (x91 == (95 : UInt8)) then
    bif (t3 != (48 : Int)) then
     some (.inr ((false, ()), ()))
    else
    L145_10 n t0 (95 : Int) (IntKind.wrap .i64 (t4 + (1 : Int))) t5
   else
   bif (t3 == (95 : Int)) then
    some (.inr ((false, ()), ()))
   else
   L145_10 n t0 (33 : Int) (IntKind.wrap .i64 (t4 + (1 : Int))) t5
   else none
   else none
  else
  some (.inl ((t3, ()), ()))
noncomputable def L145_10_it : LoopIt := ⟨145, 10, none, L145_10_T, [(.exit 0, L145_10_Xexit0), (.ret, L145_10_Xret)], 1, fun n x => L145_10 n x.1.1 x.1.2.1 x.1.2.2.1 x.1.2.2.2.1⟩
theorem L145_10_Xexit0_ok : L145_10_Xexit0.ok Tryz.prog hint := by
  intro p hp
  cases hp
theorem L145_10_Xret_ok : L145_10_Xret.ok Tryz.prog hint := by
  intro p hp
  cases hp
theorem L145_10_T_ok : L145_10_T.ok Tryz.prog hint := by
  intro p hp
  cases hp
theorem L145_10_ok : ∀ n, LoopOK Tryz.prog hint shT L145_10_it n :=
  LoopOK.of (hk := fun β => (Known.mk [] []).hk β) (sh := shT) (OneLoop.of (by kernel_rfl)) L145_10_T_ok ⟨⟨L145_10_Xexit0_ok, Nat.le_refl _, Nat.le_refl _⟩, ⟨L145_10_Xret_ok, Nat.le_refl _, Nat.le_refl _⟩, trivial⟩ (fun m => KnownOK.hook KnownOK.nil m)
    (fun _ => by kernel_rfl) (fun m x => by kernel_rfl)
noncomputable def exponent (n : Nat) (s : List UInt8) : Option (Int × (Bool × Unit)) :=
 bif (s == ([] : List UInt8)) then
  some ((0 : Int), true, ())
 else
 Option.bind (Option.bind (s[0]?) fun x1 =>
  bif (x1 != (101 : UInt8)) then
   Option.bind (s[0]?) fun x2 =>
   some (x2 != (69 : UInt8))
  else
  some false) fun b3 =>
 bif b3 then
  some ((0 : Int), false, ())
 else
 bif (ile (1 : Int) (len s)) then
 Option.bind (signed (n + 2) (List.take ((List.length s) - 1) (List.drop 1 s))) fun y4 =>
 bif (y4.1 == ([] : List UInt8)) then
  some ((0 : Int), false, ())
 else
 bif (ilt (9 : Int) (len y4.1)) then
  some ((0 : Int), false, ())
 else
 Option.bind (count (n + 4) y4.1) fun y5 =>
 bif (y5.1 != (len y4.1)) then
  some ((0 : Int), false, ())
 else
 Option.bind (bif (ilt (0 : Int) (len y4.1)) then
   some (ilt (len y4.1) (19 : Int))
  else
  some false) fun b7 =>
 bif b7 then
  Option.bind (Option.bind (y4.1[0]?) fun x9 =>
   bif (x9 == (45 : UInt8)) then
    some true
   else
   Option.bind (y4.1[0]?) fun x10 =>
   some (x10 == (43 : UInt8))) fun b11 =>
  bif b11 then
   bif (ile (1 : Int) (len y4.1)) then
   bif (ilt (len (List.take ((List.length y4.1) - 1) (List.drop 1 y4.1))) (1 : Int)) then
    none
   else
   Option.bind (L126_10 (n + 4) y4.1 (0 : Int) (List.take ((List.length y4.1) - 1) (List.drop 1 y4.1)) (len (List.take ((List.length y4.1) - 1) (List.drop 1 y4.1))) (0 : Int)) fun y15 =>
   Option.bind (y15.1.1[0]?) fun x16 =>
   bif (x16 == (45 : UInt8)) then
    bif y4.2.1 then
     some ((IntKind.wrap .i64 ((0 : Int) - (IntKind.wrap .i64 ((0 : Int) - y15.1.2.1)))), true, ())
    else
    some ((IntKind.wrap .i64 ((0 : Int) - y15.1.2.1)), true, ())
   else
   bif y4.2.1 then
    some ((IntKind.wrap .i64 ((0 : Int) - y15.1.2.1)), true, ())
   else
   some (y15.1.2.1, true, ())
   else none
  else
  Option.bind (L126_10 (n + 4) y4.1 (0 : Int) y4.1 (len y4.1) (0 : Int)) fun y17 =>
  Option.bind (y17.1.1[0]?) fun x18 =>
  bif (x18 == (45 : UInt8)) then
   bif y4.2.1 then
    some ((IntKind.wrap .i64 ((0 : Int) - (IntKind.wrap .i64 ((0 : Int) - y17.1.2.1)))), true, ())
   else
   some ((IntKind.wrap .i64 ((0 : Int) - y17.1.2.1)), true, ())
  else
  bif y4.2.1 then
   some ((IntKind.wrap .i64 ((0 : Int) - y17.1.2.1)), true, ())
  else
  some (y17.1.2.1, true, ())
 else
 bif (y4.1 == ([] : List UInt8)) then
  none
 else
 Option.bind (y4.1[0]?) fun x19 =>
 bif (x19 == (43 : UInt8)) then
  bif (ile (1 : Int) (len y4.1)) then
  bif ((List.take ((List.length y4.1) - 1) (List.drop 1 y4.1)) == ([] : List UInt8)) then
   none
  else
  Option.bind (L140_36 (n + 1) (10 : Int) false (List.take ((List.length y4.1) - 1) (List.drop 1 y4.1)) (1844674407370955162 : Int) (18446744073709551615 : Int) false (0 : Int) (List.take ((List.length y4.1) - 1) (List.drop 1 y4.1)) (len (List.take ((List.length y4.1) - 1) (List.drop 1 y4.1))) (0 : Int)) fun y48 =>
  bif y48.1.2.1 then
   Option.bind (bif (ile (1 : Int) (len y48.1.1)) then
     Option.bind (y48.1.1[0]?) fun x50 =>
     bif (x50 == (45 : UInt8)) then
      some true
     else
     Option.bind (y48.1.1[0]?) fun x51 =>
     some (x51 == (43 : UInt8))
    else
    some false) fun b52 =>
   bif b52 then
    bif (ile (1 : Int) (len y48.1.1)) then
    bif (ile (2 : Int) (len (List.take ((List.length y48.1.1) - 1) (List.drop 1 y48.1.1)))) then
     Option.bind ((List.take ((List.length y48.1.1) - 1) (List.drop 1 y48.1.1))[0]?) fun x53 =>
     bif (x53 == (48 : UInt8)) then
      Option.bind ((List.take ((List.length y48.1.1) - 1) (List.drop 1 y48.1.1))[1]?) fun x54 =>
      bif ((x54 ||| (32 : UInt8)) == (98 : UInt8)) then
       Option.bind ((List.take ((List.length y48.1.1) - 1) (List.drop 1 y48.1.1))[1]?) fun x55 =>
       Option.bind (L145_10 n (List.take ((List.length y48.1.1) - 1) (List.drop 1 y48.1.1)) (48 : Int) (2 : Int) ((x55 ||| (32 : UInt8)) == (120 : UInt8))) fun y92 =>
       match y92 with
        | .inl y93 =>
         bif (!(y93.1.1 != (95 : Int))) then
          none
         else
         bif (ile (9223372036854775808 : Int) y48.1.2.2.1) then
          none
         else
         bif y4.2.1 then
          some ((IntKind.wrap .i64 ((0 : Int) - (IntKind.wrap .i64 y48.1.2.2.1))), true, ())
         else
         some ((IntKind.wrap .i64 y48.1.2.2.1), true, ())
        | .inr y94 =>
         bif (!y94.1.1) then
          none
         else
         bif (ile (9223372036854775808 : Int) y48.1.2.2.1) then
          none
         else
         bif y4.2.1 then
          some ((IntKind.wrap .i64 ((0 : Int) - (IntKind.wrap .i64 y48.1.2.2.1))), true, ())
         else
         some ((IntKind.wrap .i64 y48.1.2.2.1), true, ())
      else
      Option.bind ((List.take ((List.length y48.1.1) - 1) (List.drop 1 y48.1.1))[1]?) fun x99 =>
      bif ((x99 ||| (32 : UInt8)) == (111 : UInt8)) then
       Option.bind ((List.take ((List.length y48.1.1) - 1) (List.drop 1 y48.1.1))[1]?) fun x100 =>
       Option.bind (L145_10 n (List.take ((List.length y48.1.1) - 1) (List.drop 1 y48.1.1)) (48 : Int) (2 : Int) ((x100 ||| (32 : UInt8)) == (120 : UInt8))) fun y101 =>
       match y101 with
        | .inl y102 =>
         bif (!(y102.1.1 != (95 : Int))) then
          none
         else
         bif (ile (9223372036854775808 : Int) y48.1.2.2.1) then
          none
         else
         bif y4.2.1 then
          some ((IntKind.wrap .i64 ((0 : Int) - (IntKind.wrap .i64 y48.1.2.2.1))), true, ())
         else
         some ((IntKind.wrap .i64 y48.1.2.2.1), true, ())
        | .inr y103 =>
         bif (!y103.1.1) then
          none
         else
         bif (ile (9223372036854775808 : Int) y48.1.2.2.1) then
          none
         else
         bif y4.2.1 then
          some ((IntKind.wrap .i64 ((0 : Int) - (IntKind.wrap .i64 y48.1.2.2.1))), true, ())
         else
         some ((IntKind.wrap .i64 y48.1.2.2.1), true, ())
      else
      Option.bind ((List.take ((List.length y48.1.1) - 1) (List.drop 1 y48.1.1))[1]?) fun x108 =>
      bif ((x108 ||| (32 : UInt8)) == (120 : UInt8)) then
       Option.bind ((List.take ((List.length y48.1.1) - 1) (List.drop 1 y48.1.1))[1]?) fun x109 =>
       Option.bind (L145_10 n (List.take ((List.length y48.1.1) - 1) (List.drop 1 y48.1.1)) (48 : Int) (2 : Int) ((x109 ||| (32 : UInt8)) == (120 : UInt8))) fun y110 =>
       match y110 with
        | .inl y111 =>
         bif (!(y111.1.1 != (95 : Int))) then
          none
         else
         bif (ile (9223372036854775808 : Int) y48.1.2.2.1) then
          none
         else
         bif y4.2.1 then
          some ((IntKind.wrap .i64 ((0 : Int) - (IntKind.wrap .i64 y48.1.2.2.1))), true, ())
         else
         some ((IntKind.wrap .i64 y48.1.2.2.1), true, ())
        | .inr y112 =>
         bif (!y112.1.1) then
          none
         else
         bif (ile (9223372036854775808 : Int) y48.1.2.2.1) then
          none
         else
         bif y4.2.1 then
          some ((IntKind.wrap .i64 ((0 : Int) - (IntKind.wrap .i64 y48.1.2.2.1))), true, ())
         else
         some ((IntKind.wrap .i64 y48.1.2.2.1), true, ())
      else
      Option.bind (L145_10 n (List.take ((List.length y48.1.1) - 1) (List.drop 1 y48.1.1)) (94 : Int) (0 : Int) false) fun y117 =>
      match y117 with
       | .inl y118 =>
        bif (!(y118.1.1 != (95 : Int))) then
         none
        else
        bif (ile (9223372036854775808 : Int) y48.1.2.2.1) then
         none
        else
        bif y4.2.1 then
         some ((IntKind.wrap .i64 ((0 : Int) - (IntKind.wrap .i64 y48.1.2.2.1))), true, ())
        else
        some ((IntKind.wrap .i64 y48.1.2.2.1), true, ())
       | .inr y119 =>
        bif (!y119.1.1) then
         none
        else
        bif (ile (9223372036854775808 : Int) y48.1.2.2.1) then
         none
        else
        bif y4.2.1 then
         some ((IntKind.wrap .i64 ((0 : Int) - (IntKind.wrap .i64 y48.1.2.2.1))), true, ())
        else
        some ((IntKind.wrap .i64 y48.1.2.2.1), true, ())
     else
     Option.bind (L145_10 n (List.take ((List.length y48.1.1) - 1) (List.drop 1 y48.1.1)) (94 : Int) (0 : Int) false) fun y124 =>
     match y124 with
      | .inl y125 =>
       bif (!(y125.1.1 != (95 : Int))) then
        none
       else
       bif (ile (9223372036854775808 : Int) y48.1.2.2.1) then
        none
       else
       bif y4.2.1 then
        some ((IntKind.wrap .i64 ((0 : Int) - (IntKind.wrap .i64 y48.1.2.2.1))), true, ())
       else
       some ((IntKind.wrap .i64 y48.1.2.2.1), true, ())
      | .inr y126 =>
       bif (!y126.1.1) then
        none
       else
       bif (ile (9223372036854775808 : Int) y48.1.2.2.1) then
        none
       else
       bif y4.2.1 then
        some ((IntKind.wrap .i64 ((0 : Int) - (IntKind.wrap .i64 y48.1.2.2.1))), true, ())
       else
       some ((IntKind.wrap .i64 y48.1.2.2.1), true, ())
    else
    Option.bind (L145_10 n (List.take ((List.length y48.1.1) - 1) (List.drop 1 y48.1.1)) (94 : Int) (0 : Int) false) fun y131 =>
    match y131 with
     | .inl y132 =>
      bif (!(y132.1.1 != (95 : Int))) then
       none
      else
      bif (ile (9223372036854775808 : Int) y48.1.2.2.1) then
       none
      else
      bif y4.2.1 then
       some ((IntKind.wrap .i64 ((0 : Int) - (IntKind.wrap .i64 y48.1.2.2.1))), true, ())
      else
      some ((IntKind.wrap .i64 y48.1.2.2.1), true, ())
     | .inr y133 =>
      bif (!y133.1.1) then
       none
      else
      bif (ile (9223372036854775808 : Int) y48.1.2.2.1) then
       none
      else
      bif y4.2.1 then
       some ((IntKind.wrap .i64 ((0 : Int) - (IntKind.wrap .i64 y48.1.2.2.1))), true, ())
      else
      some ((IntKind.wrap .i64 y48.1.2.2.1), true, ())
    else none
   else
   bif (ile (2 : Int) (len y48.1.1)) then
    Option.bind (y48.1.1[0]?) fun x138 =>
    bif (x138 == (48 : UInt8)) then
     Option.bind (y48.1.1[1]?) fun x139 =>
     bif ((x139 ||| (32 : UInt8)) == (98 : UInt8)) then
      Option.bind (y48.1.1[1]?) fun x140 =>
      Option.bind (L145_10 n y48.1.1 (48 : Int) (2 : Int) ((x140 ||| (32 : UInt8)) == (120 : UInt8))) fun y141 =>
      match y141 with
       | .inl y142 =>
        bif (!(y142.1.1 != (95 : Int))) then
         none
        else
        bif (ile (9223372036854775808 : Int) y48.1.2.2.1) then
         none
        else
        bif y4.2.1 then
         some ((IntKind.wrap .i64 ((0 : Int) - (IntKind.wrap .i64 y48.1.2.2.1))), true, ())
        else
        some ((IntKind.wrap .i64 y48.1.2.2.1), true, ())
       | .inr y143 =>
        bif (!y143.1.1) then
         none
        else
        bif (ile (9223372036854775808 : Int) y48.1.2.2.1) then
         none
        else
        bif y4.2.1 then
         some ((IntKind.wrap .i64 ((0 : Int) - (IntKind.wrap .i64 y48.1.2.2.1))), true, ())
        else
        some ((IntKind.wrap .i64 y48.1.2.2.1), true, ())
     else
     Option.bind (y48.1.1[1]?) fun x148 =>
     bif ((x148 ||| (32 : UInt8)) == (111 : UInt8)) then
      Option.bind (y48.1.1[1]?) fun x149 =>
      Option.bind (L145_10 n y48.1.1 (48 : Int) (2 : Int) ((x149 ||| (32 : UInt8)) == (120 : UInt8))) fun y150 =>
      match y150 with
       | .inl y151 =>
        bif (!(y151.1.1 != (95 : Int))) then
         none
        else
        bif (ile (9223372036854775808 : Int) y48.1.2.2.1) then
         none
        else
        bif y4.2.1 then
         some ((IntKind.wrap .i64 ((0 : Int) - (IntKind.wrap .i64 y48.1.2.2.1))), true, ())
        else
        some ((IntKind.wrap .i64 y48.1.2.2.1), true, ())
       | .inr y152 =>
        bif (!y152.1.1) then
         none
        else
        bif (ile (9223372036854775808 : Int) y48.1.2.2.1) then
         none
        else
        bif y4.2.1 then
         some ((IntKind.wrap .i64 ((0 : Int) - (IntKind.wrap .i64 y48.1.2.2.1))), true, ())
        else
        some ((IntKind.wrap .i64 y48.1.2.2.1), true, ())
     else
     Option.bind (y48.1.1[1]?) fun x157 =>
     bif ((x157 ||| (32 : UInt8)) == (120 : UInt8)) then
      Option.bind (y48.1.1[1]?) fun x158 =>
      Option.bind (L145_10 n y48.1.1 (48 : Int) (2 : Int) ((x158 ||| (32 : UInt8)) == (120 : UInt8))) fun y159 =>
      match y159 with
       | .inl y160 =>
        bif (!(y160.1.1 != (95 : Int))) then
         none
        else
        bif (ile (9223372036854775808 : Int) y48.1.2.2.1) then
         none
        else
        bif y4.2.1 then
         some ((IntKind.wrap .i64 ((0 : Int) - (IntKind.wrap .i64 y48.1.2.2.1))), true, ())
        else
        some ((IntKind.wrap .i64 y48.1.2.2.1), true, ())
       | .inr y161 =>
        bif (!y161.1.1) then
         none
        else
        bif (ile (9223372036854775808 : Int) y48.1.2.2.1) then
         none
        else
        bif y4.2.1 then
         some ((IntKind.wrap .i64 ((0 : Int) - (IntKind.wrap .i64 y48.1.2.2.1))), true, ())
        else
        some ((IntKind.wrap .i64 y48.1.2.2.1), true, ())
     else
     Option.bind (L145_10 n y48.1.1 (94 : Int) (0 : Int) false) fun y166 =>
     match y166 with
      | .inl y167 =>
       bif (!(y167.1.1 != (95 : Int))) then
        none
       else
       bif (ile (9223372036854775808 : Int) y48.1.2.2.1) then
        none
       else
       bif y4.2.1 then
        some ((IntKind.wrap .i64 ((0 : Int) - (IntKind.wrap .i64 y48.1.2.2.1))), true, ())
       else
       some ((IntKind.wrap .i64 y48.1.2.2.1), true, ())
      | .inr y168 =>
       bif (!y168.1.1) then
        none
       else
       bif (ile (9223372036854775808 : Int) y48.1.2.2.1) then
        none
       else
       bif y4.2.1 then
        some ((IntKind.wrap .i64 ((0 : Int) - (IntKind.wrap .i64 y48.1.2.2.1))), true, ())
       else
       some ((IntKind.wrap .i64 y48.1.2.2.1), true, ())
    else
    Option.bind (L145_10 n y48.1.1 (94 : Int) (0 : Int) false) fun y173 =>
    match y173 with
     | .inl y174 =>
      bif (!(y174.1.1 != (95 : Int))) then
       none
      else
      bif (ile (9223372036854775808 : Int) y48.1.2.2.1) then
       none
      else
      bif y4.2.1 then
       some ((IntKind.wrap .i64 ((0 : Int) - (IntKind.wrap .i64 y48.1.2.2.1))), true, ())
      else
      some ((IntKind.wrap .i64 y48.1.2.2.1), true, ())
     | .inr y175 =>
      bif (!y175.1.1) then
       none
      else
      bif (ile (9223372036854775808 : Int) y48.1.2.2.1) then
       none
      else
      bif y4.2.1 then
       some ((IntKind.wrap .i64 ((0 : Int) - (IntKind.wrap .i64 y48.1.2.2.1))), true, ())
      else
      some ((IntKind.wrap .i64 y48.1.2.2.1), true, ())
   else
   Option.bind (L145_10 n y48.1.1 (94 : Int) (0 : Int) false) fun y180 =>
   match y180 with
    | .inl y181 =>
     bif (!(y181.1.1 != (95 : Int))) then
      none
     else
     bif (ile (9223372036854775808 : Int) y48.1.2.2.1) then
      none
     else
     bif y4.2.1 then
      some ((IntKind.wrap .i64 ((0 : Int) - (IntKind.wrap .i64 y48.1.2.2.1))), true, ())
     else
     some ((IntKind.wrap .i64 y48.1.2.2.1), true, ())
    | .inr y182 =>
     bif (!y182.1.1) then
      none
     else
     bif (ile (9223372036854775808 : Int) y48.1.2.2.1) then
      none
     else
     bif y4.2.1 then
      some ((IntKind.wrap .i64 ((0 : Int) - (IntKind.wrap .i64 y48.1.2.2.1))), true, ())
     else
     some ((IntKind.wrap .i64 y48.1.2.2.1), true, ())
  else
  bif (ile (9223372036854775808 : Int) y48.1.2.2.1) then
   none
  else
  bif y4.2.1 then
   some ((IntKind.wrap .i64 ((0 : Int) - (IntKind.wrap .i64 y48.1.2.2.1))), true, ())
  else
  some ((IntKind.wrap .i64 y48.1.2.2.1), true, ())
  else none
 else
 bif (x19 == (45 : UInt8)) then
  bif (ile (1 : Int) (len y4.1)) then
  bif ((List.take ((List.length y4.1) - 1) (List.drop 1 y4.1)) == ([] : List UInt8)) then
   none
  else
  Option.bind (L140_36 (n + 1) (10 : Int) false (List.take ((List.length y4.1) - 1) (List.drop 1 y4.1)) (1844674407370955162 : Int) (18446744073709551615 : Int) false (0 : Int) (List.take ((List.length y4.1) - 1) (List.drop 1 y4.1)) (len (List.take ((List.length y4.1) - 1) (List.drop 1 y4.1))) (0 : Int)) fun y190 =>
  bif y190.1.2.1 then
   Option.bind (bif (ile (1 : Int) (len y190.1.1)) then
     Option.bind (y190.1.1[0]?) fun x192 =>
     bif (x192 == (45 : UInt8)) then
      some true
     else
     Option.bind (y190.1.1[0]?) fun x193 =>
     some (x193 == (43 : UInt8))
    else
    some false) fun b194 =>
   bif b194 then
    bif (ile (1 : Int) (len y190.1.1)) then
    bif (ile (2 : Int) (len (List.take ((List.length y190.1.1) - 1) (List.drop 1 y190.1.1)))) then
     Option.bind ((List.take ((List.length y190.1.1) - 1) (List.drop 1 y190.1.1))[0]?) fun x195 =>
     bif (x195 == (48 : UInt8)) then
      Option.bind ((List.take ((List.length y190.1.1) - 1) (List.drop 1 y190.1.1))[1]?) fun x196 =>
      bif ((x196 ||| (32 : UInt8)) == (98 : UInt8)) then
       Option.bind ((List.take ((List.length y190.1.1) - 1) (List.drop 1 y190.1.1))[1]?) fun x197 =>
       Option.bind (L145_10 n (List.take ((List.length y190.1.1) - 1) (List.drop 1 y190.1.1)) (48 : Int) (2 : Int) ((x197 ||| (32 : UInt8)) == (120 : UInt8))) fun y198 =>
       match y198 with
        | .inl y199 =>
         bif (!(y199.1.1 != (95 : Int))) then
          none
         else
         bif (ilt (9223372036854775808 : Int) y190.1.2.2.1) then
          none
         else
         bif y4.2.1 then
          some ((IntKind.wrap .i64 ((0 : Int) - (IntKind.wrap .i64 ((0 : Int) - (IntKind.wrap .i64 y190.1.2.2.1))))), true, ())
         else
         some ((IntKind.wrap .i64 ((0 : Int) - (IntKind.wrap .i64 y190.1.2.2.1))), true, ())
        | .inr y200 =>
         bif (!y200.1.1) then
          none
         else
         bif (ilt (9223372036854775808 : Int) y190.1.2.2.1) then
          none
         else
         bif y4.2.1 then
          some ((IntKind.wrap .i64 ((0 : Int) - (IntKind.wrap .i64 ((0 : Int) - (IntKind.wrap .i64 y190.1.2.2.1))))), true, ())
         else
         some ((IntKind.wrap .i64 ((0 : Int) - (IntKind.wrap .i64 y190.1.2.2.1))), true, ())
      else
      Option.bind ((List.take ((List.length y190.1.1) - 1) (List.drop 1 y190.1.1))[1]?) fun x205 =>
      bif ((x205 ||| (32 : UInt8)) == (111 : UInt8)) then
       Option.bind ((List.take ((List.length y190.1.1) - 1) (List.drop 1 y190.1.1))[1]?) fun x206 =>
       Option.bind (L145_10 n (List.take ((List.length y190.1.1) - 1) (List.drop 1 y190.1.1)) (48 : Int) (2 : Int) ((x206 ||| (32 : UInt8)) == (120 : UInt8))) fun y207 =>
       match y207 with
        | .inl y208 =>
         bif (!(y208.1.1 != (95 : Int))) then
          none
         else
         bif (ilt (9223372036854775808 : Int) y190.1.2.2.1) then
          none
         else
         bif y4.2.1 then
          some ((IntKind.wrap .i64 ((0 : Int) - (IntKind.wrap .i64 ((0 : Int) - (IntKind.wrap .i64 y190.1.2.2.1))))), true, ())
         else
         some ((IntKind.wrap .i64 ((0 : Int) - (IntKind.wrap .i64 y190.1.2.2.1))), true, ())
        | .inr y209 =>
         bif (!y209.1.1) then
          none
         else
         bif (ilt (9223372036854775808 : Int) y190.1.2.2.1) then
          none
         else
         bif y4.2.1 then
          some ((IntKind.wrap .i64 ((0 : Int) - (IntKind.wrap .i64 ((0 : Int) - (IntKind.wrap .i64 y190.1.2.2.1))))), true, ())
         else
         some ((IntKind.wrap .i64 ((0 : Int) - (IntKind.wrap .i64 y190.1.2.2.1))), true, ())
      else
      Option.bind ((List.take ((List.length y190.1.1) - 1) (List.drop 1 y190.1.1))[1]?) fun x214 =>
      bif ((x214 ||| (32 : UInt8)) == (120 : UInt8)) then
       Option.bind ((List.take ((List.length y190.1.1) - 1) (List.drop 1 y190.1.1))[1]?) fun x215 =>
       Option.bind (L145_10 n (List.take ((List.length y190.1.1) - 1) (List.drop 1 y190.1.1)) (48 : Int) (2 : Int) ((x215 ||| (32 : UInt8)) == (120 : UInt8))) fun y216 =>
       match y216 with
        | .inl y217 =>
         bif (!(y217.1.1 != (95 : Int))) then
          none
         else
         bif (ilt (9223372036854775808 : Int) y190.1.2.2.1) then
          none
         else
         bif y4.2.1 then
          some ((IntKind.wrap .i64 ((0 : Int) - (IntKind.wrap .i64 ((0 : Int) - (IntKind.wrap .i64 y190.1.2.2.1))))), true, ())
         else
         some ((IntKind.wrap .i64 ((0 : Int) - (IntKind.wrap .i64 y190.1.2.2.1))), true, ())
        | .inr y218 =>
         bif (!y218.1.1) then
          none
         else
         bif (ilt (9223372036854775808 : Int) y190.1.2.2.1) then
          none
         else
         bif y4.2.1 then
          some ((IntKind.wrap .i64 ((0 : Int) - (IntKind.wrap .i64 ((0 : Int) - (IntKind.wrap .i64 y190.1.2.2.1))))), true, ())
         else
         some ((IntKind.wrap .i64 ((0 : Int) - (IntKind.wrap .i64 y190.1.2.2.1))), true, ())
      else
      Option.bind (L145_10 n (List.take ((List.length y190.1.1) - 1) (List.drop 1 y190.1.1)) (94 : Int) (0 : Int) false) fun y223 =>
      match y223 with
       | .inl y224 =>
        bif (!(y224.1.1 != (95 : Int))) then
         none
        else
        bif (ilt (9223372036854775808 : Int) y190.1.2.2.1) then
         none
        else
        bif y4.2.1 then
         some ((IntKind.wrap .i64 ((0 : Int) - (IntKind.wrap .i64 ((0 : Int) - (IntKind.wrap .i64 y190.1.2.2.1))))), true, ())
        else
        some ((IntKind.wrap .i64 ((0 : Int) - (IntKind.wrap .i64 y190.1.2.2.1))), true, ())
       | .inr y225 =>
        bif (!y225.1.1) then
         none
        else
        bif (ilt (9223372036854775808 : Int) y190.1.2.2.1) then
         none
        else
        bif y4.2.1 then
         some ((IntKind.wrap .i64 ((0 : Int) - (IntKind.wrap .i64 ((0 : Int) - (IntKind.wrap .i64 y190.1.2.2.1))))), true, ())
        else
        some ((IntKind.wrap .i64 ((0 : Int) - (IntKind.wrap .i64 y190.1.2.2.1))), true, ())
     else
     Option.bind (L145_10 n (List.take ((List.length y190.1.1) - 1) (List.drop 1 y190.1.1)) (94 : Int) (0 : Int) false) fun y230 =>
     match y230 with
      | .inl y231 =>
       bif (!(y231.1.1 != (95 : Int))) then
        none
       else
       bif (ilt (9223372036854775808 : Int) y190.1.2.2.1) then
        none
       else
       bif y4.2.1 then
        some ((IntKind.wrap .i64 ((0 : Int) - (IntKind.wrap .i64 ((0 : Int) - (IntKind.wrap .i64 y190.1.2.2.1))))), true, ())
       else
       some ((IntKind.wrap .i64 ((0 : Int) - (IntKind.wrap .i64 y190.1.2.2.1))), true, ())
      | .inr y232 =>
       bif (!y232.1.1) then
        none
       else
       bif (ilt (9223372036854775808 : Int) y190.1.2.2.1) then
        none
       else
       bif y4.2.1 then
        some ((IntKind.wrap .i64 ((0 : Int) - (IntKind.wrap .i64 ((0 : Int) - (IntKind.wrap .i64 y190.1.2.2.1))))), true, ())
       else
       some ((IntKind.wrap .i64 ((0 : Int) - (IntKind.wrap .i64 y190.1.2.2.1))), true, ())
    else
    Option.bind (L145_10 n (List.take ((List.length y190.1.1) - 1) (List.drop 1 y190.1.1)) (94 : Int) (0 : Int) false) fun y237 =>
    match y237 with
     | .inl y238 =>
      bif (!(y238.1.1 != (95 : Int))) then
       none
      else
      bif (ilt (9223372036854775808 : Int) y190.1.2.2.1) then
       none
      else
      bif y4.2.1 then
       some ((IntKind.wrap .i64 ((0 : Int) - (IntKind.wrap .i64 ((0 : Int) - (IntKind.wrap .i64 y190.1.2.2.1))))), true, ())
      else
      some ((IntKind.wrap .i64 ((0 : Int) - (IntKind.wrap .i64 y190.1.2.2.1))), true, ())
     | .inr y239 =>
      bif (!y239.1.1) then
       none
      else
      bif (ilt (9223372036854775808 : Int) y190.1.2.2.1) then
       none
      else
      bif y4.2.1 then
       some ((IntKind.wrap .i64 ((0 : Int) - (IntKind.wrap .i64 ((0 : Int) - (IntKind.wrap .i64 y190.1.2.2.1))))), true, ())
      else
      some ((IntKind.wrap .i64 ((0 : Int) - (IntKind.wrap .i64 y190.1.2.2.1))), true, ())
    else none
   else
   bif (ile (2 : Int) (len y190.1.1)) then
    Option.bind (y190.1.1[0]?) fun x244 =>
    bif (x244 == (48 : UInt8)) then
     Option.bind (y190.1.1[1]?) fun x245 =>
     bif ((x245 ||| (32 : UInt8)) == (98 : UInt8)) then
      Option.bind (y190.1.1[1]?) fun x246 =>
      Option.bind (L145_10 n y190.1.1 (48 : Int) (2 : Int) ((x246 ||| (32 : UInt8)) == (120 : UInt8))) fun y247 =>
      match y247 with
       | .inl y248 =>
        bif (!(y248.1.1 != (95 : Int))) then
         none
        else
        bif (ilt (9223372036854775808 : Int) y190.1.2.2.1) then
         none
        else
        bif y4.2.1 then
         some ((IntKind.wrap .i64 ((0 : Int) - (IntKind.wrap .i64 ((0 : Int) - (IntKind.wrap .i64 y190.1.2.2.1))))), true, ())
        else
        some ((IntKind.wrap .i64 ((0 : Int) - (IntKind.wrap .i64 y190.1.2.2.1))), true, ())
       | .inr y249 =>
        bif (!y249.1.1) then
         none
        else
        bif (ilt (9223372036854775808 : Int) y190.1.2.2.1) then
         none
        else
        bif y4.2.1 then
         some ((IntKind.wrap .i64 ((0 : Int) - (IntKind.wrap .i64 ((0 : Int) - (IntKind.wrap .i64 y190.1.2.2.1))))), true, ())
        else
        some ((IntKind.wrap .i64 ((0 : Int) - (IntKind.wrap .i64 y190.1.2.2.1))), true, ())
     else
     Option.bind (y190.1.1[1]?) fun x254 =>
     bif ((x254 ||| (32 : UInt8)) == (111 : UInt8)) then
      Option.bind (y190.1.1[1]?) fun x255 =>
      Option.bind (L145_10 n y190.1.1 (48 : Int) (2 : Int) ((x255 ||| (32 : UInt8)) == (120 : UInt8))) fun y256 =>
      match y256 with
       | .inl y257 =>
        bif (!(y257.1.1 != (95 : Int))) then
         none
        else
        bif (ilt (9223372036854775808 : Int) y190.1.2.2.1) then
         none
        else
        bif y4.2.1 then
         some ((IntKind.wrap .i64 ((0 : Int) - (IntKind.wrap .i64 ((0 : Int) - (IntKind.wrap .i64 y190.1.2.2.1))))), true, ())
        else
        some ((IntKind.wrap .i64 ((0 : Int) - (IntKind.wrap .i64 y190.1.2.2.1))), true, ())
       | .inr y258 =>
        bif (!y258.1.1) then
         none
        else
        bif (ilt (9223372036854775808 : Int) y190.1.2.2.1) then
         none
        else
        bif y4.2.1 then
         some ((IntKind.wrap .i64 ((0 : Int) - (IntKind.wrap .i64 ((0 : Int) - (IntKind.wrap .i64 y190.1.2.2.1))))), true, ())
        else
        some ((IntKind.wrap .i64 ((0 : Int) - (IntKind.wrap .i64 y190.1.2.2.1))), true, ())
     else
     Option.bind (y190.1.1[1]?) fun x263 =>
     bif ((x263 ||| (32 : UInt8)) == (120 : UInt8)) then
      Option.bind (y190.1.1[1]?) fun x264 =>
      Option.bind (L145_10 n y190.1.1 (48 : Int) (2 : Int) ((x264 ||| (32 : UInt8)) == (120 : UInt8))) fun y265 =>
      match y265 with
       | .inl y266 =>
        bif (!(y266.1.1 != (95 : Int))) then
         none
        else
        bif (ilt (9223372036854775808 : Int) y190.1.2.2.1) then
         none
        else
        bif y4.2.1 then
         some ((IntKind.wrap .i64 ((0 : Int) - (IntKind.wrap .i64 ((0 : Int) - (IntKind.wrap .i64 y190.1.2.2.1))))), true, ())
        else
        some ((IntKind.wrap .i64 ((0 : Int) - (IntKind.wrap .i64 y190.1.2.2.1))), true, ())
       | .inr y267 =>
        bif (!y267.1.1) then
         none
        else
        bif (ilt (9223372036854775808 : Int) y190.1.2.2.1) then
         none
        else
        bif y4.2.1 then
         some ((IntKind.wrap .i64 ((0 : Int) - (IntKind.wrap .i64 ((0 : Int) - (IntKind.wrap .i64 y190.1.2.2.1))))), true, ())
        else
        some ((IntKind.wrap .i64 ((0 : Int) - (IntKind.wrap .i64 y190.1.2.2.1))), true, ())
     else
     Option.bind (L145_10 n y190.1.1 (94 : Int) (0 : Int) false) fun y272 =>
     match y272 with
      | .inl y273 =>
       bif (!(y273.1.1 != (95 : Int))) then
        none
       else
       bif (ilt (9223372036854775808 : Int) y190.1.2.2.1) then
        none
       else
       bif y4.2.1 then
        some ((IntKind.wrap .i64 ((0 : Int) - (IntKind.wrap .i64 ((0 : Int) - (IntKind.wrap .i64 y190.1.2.2.1))))), true, ())
       else
       some ((IntKind.wrap .i64 ((0 : Int) - (IntKind.wrap .i64 y190.1.2.2.1))), true, ())
      | .inr y274 =>
       bif (!y274.1.1) then
        none
       else
       bif (ilt (9223372036854775808 : Int) y190.1.2.2.1) then
        none
       else
       bif y4.2.1 then
        some ((IntKind.wrap .i64 ((0 : Int) - (IntKind.wrap .i64 ((0 : Int) - (IntKind.wrap .i64 y190.1.2.2.1))))), true, ())
       else
       some ((IntKind.wrap .i64 ((0 : Int) - (IntKind.wrap .i64 y190.1.2.2.1))), true, ())
    else
    Option.bind (L145_10 n y190.1.1 (94 : Int) (0 : Int) false) fun y279 =>
    match y279 with
     | .inl y280 =>
      bif (!(y280.1.1 != (95 : Int))) then
       none
      else
      bif (ilt (9223372036854775808 : Int) y190.1.2.2.1) then
       none
      else
      bif y4.2.1 then
       some ((IntKind.wrap .i64 ((0 : Int) - (IntKind.wrap .i64 ((0 : Int) - (IntKind.wrap .i64 y190.1.2.2.1))))), true, ())
      else
      some ((IntKind.wrap .i64 ((0 : Int) - (IntKind.wrap .i64 y190.1.2.2.1))), true, ())
     | .inr y281 =>
      bif (!y281.1.1) then
       none
      else
      bif (ilt (9223372036854775808 : Int) y190.1.2.2.1) then
       none
      else
      bif y4.2.1 then
       some ((IntKind.wrap .i64 ((0 : Int) - (IntKind.wrap .i64 ((0 : Int) - (IntKind.wrap .i64 y190.1.2.2.1))))), true, ())
      else
      some ((IntKind.wrap .i64 ((0 : Int) - (IntKind.wrap .i64 y190.1.2.2.1))), true, ())
   else
   Option.bind (L145_10 n y190.1.1 (94 : Int) (0 : Int) false) fun y286 =>
   match y286 with
    | .inl y287 =>
     bif (!(y287.1.1 != (95 : Int))) then
      none
     else
     bif (ilt (9223372036854775808 : Int) y190.1.2.2.1) then
      none
     else
     bif y4.2.1 then
      some ((IntKind.wrap .i64 ((0 : Int) - (IntKind.wrap .i64 ((0 : Int) - (IntKind.wrap .i64 y190.1.2.2.1))))), true, ())
     else
     some ((IntKind.wrap .i64 ((0 : Int) - (IntKind.wrap .i64 y190.1.2.2.1))), true, ())
    | .inr y288 =>
     bif (!y288.1.1) then
      none
     else
     bif (ilt (9223372036854775808 : Int) y190.1.2.2.1) then
      none
     else
     bif y4.2.1 then
      some ((IntKind.wrap .i64 ((0 : Int) - (IntKind.wrap .i64 ((0 : Int) - (IntKind.wrap .i64 y190.1.2.2.1))))), true, ())
     else
     some ((IntKind.wrap .i64 ((0 : Int) - (IntKind.wrap .i64 y190.1.2.2.1))), true, ())
  else
  bif (ilt (9223372036854775808 : Int) y190.1.2.2.1) then
   none
  else
  bif y4.2.1 then
   some ((IntKind.wrap .i64 ((0 : Int) - (IntKind.wrap .i64 ((0 : Int) - (IntKind.wrap .i64 y190.1.2.2.1))))), true, ())
  else
  some ((IntKind.wrap .i64 ((0 : Int) - (IntKind.wrap .i64 y190.1.2.2.1))), true, ())
  else none
 else
 bif (y4.1 == ([] : List UInt8)) then
  none
 else
 Option.bind (L140_36 (n + 1) (10 : Int) false y4.1 (1844674407370955162 : Int) (18446744073709551615 : Int) false (0 : Int) y4.1 (len y4.1) (0 : Int)) fun y296 =>
 bif y296.1.2.1 then
  Option.bind (bif (ile (1 : Int) (len y296.1.1)) then
    Option.bind (y296.1.1[0]?) fun x298 =>
    bif (x298 == (45 : UInt8)) then
     some true
    else
    Option.bind (y296.1.1[0]?) fun x299 =>
    some (x299 == (43 : UInt8))
   else
   some false) fun b300 =>
  bif b300 then
   bif (ile (1 : Int) (len y296.1.1)) then
   bif (ile (2 : Int) (len (List.take ((List.length y296.1.1) - 1) (List.drop 1 y296.1.1)))) then
    Option.bind ((List.take ((List.length y296.1.1) - 1) (List.drop 1 y296.1.1))[0]?) fun x301 =>
    bif (x301 == (48 : UInt8)) then
     Option.bind ((List.take ((List.length y296.1.1) - 1) (List.drop 1 y296.1.1))[1]?) fun x302 =>
     bif ((x302 ||| (32 : UInt8)) == (98 : UInt8)) then
      Option.bind ((List.take ((List.length y296.1.1) - 1) (List.drop 1 y296.1.1))[1]?) fun x303 =>
      Option.bind (L145_10 n (List.take ((List.length y296.1.1) - 1) (List.drop 1 y296.1.1)) (48 : Int) (2 : Int) ((x303 ||| (32 : UInt8)) == (120 : UInt8))) fun y304 =>
      match y304 with
       | .inl y305 =>
        bif (!(y305.1.1 != (95 : Int))) then
         none
        else
        bif (ile (9223372036854775808 : Int) y296.1.2.2.1) then
         none
        else
        bif y4.2.1 then
         some ((IntKind.wrap .i64 ((0 : Int) - (IntKind.wrap .i64 y296.1.2.2.1))), true, ())
        else
        some ((IntKind.wrap .i64 y296.1.2.2.1), true, ())
       | .inr y306 =>
        bif (!y306.1.1) then
         none
        else
        bif (ile (9223372036854775808 : Int) y296.1.2.2.1) then
         none
        else
        bif y4.2.1 then
         some ((IntKind.wrap .i64 ((0 : Int) - (IntKind.wrap .i64 y296.1.2.2.1))), true, ())
        else
        some ((IntKind.wrap .i64 y296.1.2.2.1), true, ())
     else
     Option.bind ((List.take ((List.length y296.1.1) - 1) (List.drop 1 y296.1.1))[1]?) fun x311 =>
     bif ((x311 ||| (32 : UInt8)) == (111 : UInt8)) then
      Option.bind ((List.take ((List.length y296.1.1) - 1) (List.drop 1 y296.1.1))[1]?) fun x312 =>
      Option.bind (L145_10 n (List.take ((List.length y296.1.1) - 1) (List.drop 1 y296.1.1)) (48 : Int) (2 : Int) ((x312 ||| (32 : UInt8)) == (120 : UInt8))) fun y313 =>
      match y313 with
       | .inl y314 =>
        bif (!(y314.1.1 != (95 : Int))) then
         none
        else
        bif (ile (9223372036854775808 : Int) y296.1.2.2.1) then
         none
        else
        bif y4.2.1 then
         some ((IntKind.wrap .i64 ((0 : Int) - (IntKind.wrap .i64 y296.1.2.2.1))), true, ())
        else
        some ((IntKind.wrap .i64 y296.1.2.2.1), true, ())
       | .inr y315 =>
        bif (!y315.1.1) then
         none
        else
        bif (ile (9223372036854775808 : Int) y296.1.2.2.1) then
         none
        else
        bif y4.2.1 then
         some ((IntKind.wrap .i64 ((0 : Int) - (IntKind.wrap .i64 y296.1.2.2.1))), true, ())
        else
        some ((IntKind.wrap .i64 y296.1.2.2.1), true, ())
     else
     Option.bind ((List.take ((List.length y296.1.1) - 1) (List.drop 1 y296.1.1))[1]?) fun x320 =>
     bif ((x320 ||| (32 : UInt8)) == (120 : UInt8)) then
      Option.bind ((List.take ((List.length y296.1.1) - 1) (List.drop 1 y296.1.1))[1]?) fun x321 =>
      Option.bind (L145_10 n (List.take ((List.length y296.1.1) - 1) (List.drop 1 y296.1.1)) (48 : Int) (2 : Int) ((x321 ||| (32 : UInt8)) == (120 : UInt8))) fun y322 =>
      match y322 with
       | .inl y323 =>
        bif (!(y323.1.1 != (95 : Int))) then
         none
        else
        bif (ile (9223372036854775808 : Int) y296.1.2.2.1) then
         none
        else
        bif y4.2.1 then
         some ((IntKind.wrap .i64 ((0 : Int) - (IntKind.wrap .i64 y296.1.2.2.1))), true, ())
        else
        some ((IntKind.wrap .i64 y296.1.2.2.1), true, ())
       | .inr y324 =>
        bif (!y324.1.1) then
         none
        else
        bif (ile (9223372036854775808 : Int) y296.1.2.2.1) then
         none
        else
        bif y4.2.1 then
         some ((IntKind.wrap .i64 ((0 : Int) - (IntKind.wrap .i64 y296.1.2.2.1))), true, ())
        else
        some ((IntKind.wrap .i64 y296.1.2.2.1), true, ())
     else
     Option.bind (L145_10 n (List.take ((List.length y296.1.1) - 1) (List.drop 1 y296.1.1)) (94 : Int) (0 : Int) false) fun y329 =>
     match y329 with
      | .inl y330 =>
       bif (!(y330.1.1 != (95 : Int))) then
        none
       else
       bif (ile (9223372036854775808 : Int) y296.1.2.2.1) then
        none
       else
       bif y4.2.1 then
        some ((IntKind.wrap .i64 ((0 : Int) - (IntKind.wrap .i64 y296.1.2.2.1))), true, ())
       else
       some ((IntKind.wrap .i64 y296.1.2.2.1), true, ())
      | .inr y331 =>
       bif (!y331.1.1) then
        none
       else
       bif (ile (9223372036854775808 : Int) y296.1.2.2.1) then
        none
       else
       bif y4.2.1 then
        some ((IntKind.wrap .i64 ((0 : Int) - (IntKind.wrap .i64 y296.1.2.2.1))), true, ())
       else
       some ((IntKind.wrap .i64 y296.1.2.2.1), true, ())
    else
    Option.bind (L145_10 n (List.take ((List.length y296.1.1) - 1) (List.drop 1 y296.1.1)) (94 : Int) (0 : Int) false) fun y336 =>
    match y336 with
     | .inl y337 =>
      bif (!(y337.1.1 != (95 : Int))) then
       none
      else
      bif (ile (9223372036854775808 : Int) y296.1.2.2.1) then
       none
      else
      bif y4.2.1 then
       some ((IntKind.wrap .i64 ((0 : Int) - (IntKind.wrap .i64 y296.1.2.2.1))), true, ())
      else
      some ((IntKind.wrap .i64 y296.1.2.2.1), true, ())
     | .inr y338 =>
      bif (!y338.1.1) then
       none
      else
      bif (ile (9223372036854775808 : Int) y296.1.2.2.1) then
       none
      else
      bif y4.2.1 then
       some ((IntKind.wrap .i64 ((0 : Int) - (IntKind.wrap .i64 y296.1.2.2.1))), true, ())
      else
      some ((IntKind.wrap .i64 y296.1.2.2.1), true, ())
   else
   Option.bind (L145_10 n (List.take ((List.length y296.1.1) - 1) (List.drop 1 y296.1.1)) (94 : Int) (0 : Int) false) fun y343 =>
   match y343 with
    | .inl y344 =>
     bif (!(y344.1.1 != (95 : Int))) then
      none
     else
     bif (ile (9223372036854775808 : Int) y296.1.2.2.1) then
      none
     else
     bif y4.2.1 then
      some ((IntKind.wrap .i64 ((0 : Int) - (IntKind.wrap .i64 y296.1.2.2.1))), true, ())
     else
     some ((IntKind.wrap .i64 y296.1.2.2.1), true, ())
    | .inr y345 =>
     bif (!y345.1.1) then
      none
     else
     bif (ile (9223372036854775808 : Int) y296.1.2.2.1) then
      none
     else
     bif y4.2.1 then
      some ((IntKind.wrap .i64 ((0 : Int) - (IntKind.wrap .i64 y296.1.2.2.1))), true, ())
     else
     some ((IntKind.wrap .i64 y296.1.2.2.1), true, ())
   else none
  else
  bif (ile (2 : Int) (len y296.1.1)) then
   Option.bind (y296.1.1[0]?) fun x350 =>
   bif (x350 == (48 : UInt8)) then
    Option.bind (y296.1.1[1]?) fun x351 =>
    bif ((x351 ||| (32 : UInt8)) == (98 : UInt8)) then
     Option.bind (y296.1.1[1]?) fun x352 =>
     Option.bind (L145_10 n y296.1.1 (48 : Int) (2 : Int) ((x352 ||| (32 : UInt8)) == (120 : UInt8))) fun y353 =>
     match y353 with
      | .inl y354 =>
       bif (!(y354.1.1 != (95 : Int))) then
        none
       else
       bif (ile (9223372036854775808 : Int) y296.1.2.2.1) then
        none
       else
       bif y4.2.1 then
        some ((IntKind.wrap .i64 ((0 : Int) - (IntKind.wrap .i64 y296.1.2.2.1))), true, ())
       else
       some ((IntKind.wrap .i64 y296.1.2.2.1), true, ())
      | .inr y355 =>
       bif (!y355.1.1) then
        none
       else
       bif (ile (9223372036854775808 : Int) y296.1.2.2.1) then
        none
       else
       bif y4.2.1 then
        some ((IntKind.wrap .i64 ((0 : Int) - (IntKind.wrap .i64 y296.1.2.2.1))), true, ())
       else
       some ((IntKind.wrap .i64 y296.1.2.2.1), true, ())
    else
    Option.bind (y296.1.1[1]?) fun x360 =>
    bif ((x360 ||| (32 : UInt8)) == (111 : UInt8)) then
     Option.bind (y296.1.1[1]?) fun x361 =>
     Option.bind (L145_10 n y296.1.1 (48 : Int) (2 : Int) ((x361 ||| (32 : UInt8)) == (120 : UInt8))) fun y362 =>
     match y362 with
      | .inl y363 =>
       bif (!(y363.1.1 != (95 : Int))) then
        none
       else
       bif (ile (9223372036854775808 : Int) y296.1.2.2.1) then
        none
       else
       bif y4.2.1 then
        some ((IntKind.wrap .i64 ((0 : Int) - (IntKind.wrap .i64 y296.1.2.2.1))), true, ())
       else
       some ((IntKind.wrap .i64 y296.1.2.2.1), true, ())
      | .inr y364 =>
       bif (!y364.1.1) then
        none
       else
       bif (ile (9223372036854775808 : Int) y296.1.2.2.1) then
        none
       else
       bif y4.2.1 then
        some ((IntKind.wrap .i64 ((0 : Int) - (IntKind.wrap .i64 y296.1.2.2.1))), true, ())
       else
       some ((IntKind.wrap .i64 y296.1.2.2.1), true, ())
    else
    Option.bind (y296.1.1[1]?) fun x369 =>
    bif ((x369 ||| (32 : UInt8)) == (120 : UInt8)) then
     Option.bind (y296.1.1[1]?) fun x370 =>
     Option.bind (L145_10 n y296.1.1 (48 : Int) (2 : Int) ((x370 ||| (32 : UInt8)) == (120 : UInt8))) fun y371 =>
     match y371 with
      | .inl y372 =>
       bif (!(y372.1.1 != (95 : Int))) then
        none
       else
       bif (ile (9223372036854775808 : Int) y296.1.2.2.1) then
        none
       else
       bif y4.2.1 then
        some ((IntKind.wrap .i64 ((0 : Int) - (IntKind.wrap .i64 y296.1.2.2.1))), true, ())
       else
       some ((IntKind.wrap .i64 y296.1.2.2.1), true, ())
      | .inr y373 =>
       bif (!y373.1.1) then
        none
       else
       bif (ile (9223372036854775808 : Int) y296.1.2.2.1) then
        none
       else
       bif y4.2.1 then
        some ((IntKind.wrap .i64 ((0 : Int) - (IntKind.wrap .i64 y296.1.2.2.1))), true, ())
       else
       some ((IntKind.wrap .i64 y296.1.2.2.1), true, ())
    else
    Option.bind (L145_10 n y296.1.1 (94 : Int) (0 : Int) false) fun y378 =>
    match y378 with
     | .inl y379 =>
      bif (!(y379.1.1 != (95 : Int))) then
       none
      else
      bif (ile (9223372036854775808 : Int) y296.1.2.2.1) then
       none
      else
      bif y4.2.1 then
       some ((IntKind.wrap .i64 ((0 : Int) - (IntKind.wrap .i64 y296.1.2.2.1))), true, ())
      else
      some ((IntKind.wrap .i64 y296.1.2.2.1), true, ())
     | .inr y380 =>
      bif (!y380.1.1) then
       none
      else
      bif (ile (9223372036854775808 : Int) y296.1.2.2.1) then
       none
      else
      bif y4.2.1 then
       some ((IntKind.wrap .i64 ((0 : Int) - (IntKind.wrap .i64 y296.1.2.2.1))), true, ())
      else
      some ((IntKind.wrap .i64 y296.1.2.2.1), true, ())
   else
   Option.bind (L145_10 n y296.1.1 (94 : Int) (0 : Int) false) fun y385 =>
   match y385 with
    | .inl y386 =>
     bif (!(y386.1.1 != (95 : Int))) then
      none
     else
     bif (ile (9223372036854775808 : Int) y296.1.2.2.1) then
      none
     else
     bif y4.2.1 then
      some ((IntKind.wrap .i64 ((0 : Int) - (IntKind.wrap .i64 y296.1.2.2.1))), true, ())
     else
     some ((IntKind.wrap .i64 y296.1.2.2.1), true, ())
    | .inr y387 =>
     bif (!y387.1.1) then
      none
     else
     bif (ile (9223372036854775808 : Int) y296.1.2.2.1) then
      none
     else
     bif y4.2.1 then
      some ((IntKind.wrap .i64 ((0 : Int) - (IntKind.wrap .i64 y296.1.2.2.1))), true, ())
     else
     some ((IntKind.wrap .i64 y296.1.2.2.1), true, ())
  else
  Option.bind (L145_10 n y296.1.1 (94 : Int) (0 : Int) false) fun y392 =>
  match y392 with
   | .inl y393 =>
    bif (!(y393.1.1 != (95 : Int))) then
     none
    else
    bif (ile (9223372036854775808 : Int) y296.1.2.2.1) then
     none
    else
    bif y4.2.1 then
     some ((IntKind.wrap .i64 ((0 : Int) - (IntKind.wrap .i64 y296.1.2.2.1))), true, ())
    else
    some ((IntKind.wrap .i64 y296.1.2.2.1), true, ())
   | .inr y394 =>
    bif (!y394.1.1) then
     none
    else
    bif (ile (9223372036854775808 : Int) y296.1.2.2.1) then
     none
    else
    bif y4.2.1 then
     some ((IntKind.wrap .i64 ((0 : Int) - (IntKind.wrap .i64 y296.1.2.2.1))), true, ())
    else
    some ((IntKind.wrap .i64 y296.1.2.2.1), true, ())
 else
 bif (ile (9223372036854775808 : Int) y296.1.2.2.1) then
  none
 else
 bif y4.2.1 then
  some ((IntKind.wrap .i64 ((0 : Int) - (IntKind.wrap .i64 y296.1.2.2.1))), true, ())
 else
 some ((IntKind.wrap .i64 y296.1.2.2.1), true, ())
 else none
noncomputable def exponent_it : FnIt := ⟨98, [(false, .str)], [(false, (.int .i64)), (false, .bool)], 6, fun n x => exponent n x.1⟩
theorem exponent_ok (n : Nat) : FnOK Tryz.prog hint shT exponent_it n :=
  FnOK.of (hk := fun β => (Known.mk [count_it, signed_it] [L145_10_it, L140_36_it, L126_10_it]).hk β) (sh := shT) (fun m _ => KnownOK.hook (((((KnownOK.nil.fn signed_ok).fn count_ok).loop L126_10_ok L126_10_T_ok).loop L140_36_ok L140_36_T_ok).loop L145_10_ok L145_10_T_ok) m) (fun x => by kernel_rfl)
noncomputable def named (n : Nat) (s : List UInt8) : Option ((Bool × (List UInt8 × (Int × Int))) × (Bool × Unit)) :=
 bif (s == ([(46 : UInt8), (110 : UInt8), (97 : UInt8), (110 : UInt8)] : List UInt8)) then
  some ((false, (([] : List UInt8), ((0 : Int), (2 : Int)))), true, ())
 else
 bif (s == ([(46 : UInt8), (78 : UInt8), (97 : UInt8), (78 : UInt8)] : List UInt8)) then
  some ((false, (([] : List UInt8), ((0 : Int), (2 : Int)))), true, ())
 else
 bif (s == ([(46 : UInt8), (78 : UInt8), (65 : UInt8), (78 : UInt8)] : List UInt8)) then
  some ((false, (([] : List UInt8), ((0 : Int), (2 : Int)))), true, ())
 else
 Option.bind (signed n s) fun y0 =>
 bif (y0.1 == ([(46 : UInt8), (105 : UInt8), (110 : UInt8), (102 : UInt8)] : List UInt8)) then
  some ((y0.2.1, (([] : List UInt8), ((0 : Int), (1 : Int)))), true, ())
 else
 bif (y0.1 == ([(46 : UInt8), (73 : UInt8), (110 : UInt8), (102 : UInt8)] : List UInt8)) then
  some ((y0.2.1, (([] : List UInt8), ((0 : Int), (1 : Int)))), true, ())
 else
 bif (y0.1 == ([(46 : UInt8), (73 : UInt8), (78 : UInt8), (70 : UInt8)] : List UInt8)) then
  some ((y0.2.1, (([] : List UInt8), ((0 : Int), (1 : Int)))), true, ())
 else
 some ((false, (([] : List UInt8), ((0 : Int), (0 : Int)))), false, ())
noncomputable def named_it : FnIt := ⟨96, [(false, .str)], [(true, (.cons .bool (.cons .str (.cons (.int .i64) (.int .i64))))), (false, .bool)], 4, fun n x => named n x.1⟩
theorem named_ok (n : Nat) : FnOK Tryz.prog hint shT named_it n :=
  FnOK.of (hk := fun β => (Known.mk [signed_it] []).hk β) (sh := shT) (fun m _ => KnownOK.hook (KnownOK.nil.fn signed_ok) m) (fun x => by kernel_rfl)
noncomputable def float (n : Nat) (s : List UInt8) : Option ((Bool × (List UInt8 × (Int × Int))) × (Bool × Unit)) :=
 Option.bind (named (n + 2) s) fun y0 =>
 bif y0.2.1 then
  some ((y0.1.1, (y0.1.2.1, (y0.1.2.2.1, y0.1.2.2.2))), true, ())
 else
 Option.bind (signed (n + 3) s) fun y1 =>
 Option.bind (count (n + 5) y1.1) fun y2 =>
 bif ((ile (0 : Int) y2.1) && (ile y2.1 (len y1.1))) then
 bif ((ile (0 : Int) y2.1) && (ile y2.1 (len y1.1))) then
 Option.bind (hasPrefix (n + 5) (List.take ((List.length y1.1) - (Int.toNat y2.1)) (List.drop (Int.toNat y2.1) y1.1)) ([(46 : UInt8)] : List UInt8)) fun y3 =>
 bif y3.1 then
  bif (ile (1 : Int) (len (List.take ((List.length y1.1) - (Int.toNat y2.1)) (List.drop (Int.toNat y2.1) y1.1)))) then
  Option.bind (count (n + 5) (List.take ((List.length (List.take ((List.length y1.1) - (Int.toNat y2.1)) (List.drop (Int.toNat y2.1) y1.1))) - 1) (List.drop 1 (List.take ((List.length y1.1) - (Int.toNat y2.1)) (List.drop (Int.toNat y2.1) y1.1))))) fun y4 =>
  bif ((ile (0 : Int) (IntKind.wrap .i64 ((1 : Int) + y4.1))) && (ile (IntKind.wrap .i64 ((1 : Int) + y4.1)) (len (List.take ((List.length y1.1) - (Int.toNat y2.1)) (List.drop (Int.toNat y2.1) y1.1))))) then
  bif (ile (1 : Int) (((Int.toNat (IntKind.wrap .i64 ((1 : Int) + y4.1))) : Nat) : Int)) then
  bif ((ile (0 : Int) (IntKind.wrap .i64 ((1 : Int) + y4.1))) && (ile (IntKind.wrap .i64 ((1 : Int) + y4.1)) (len (List.take ((List.length y1.1) - (Int.toNat y2.1)) (List.drop (Int.toNat y2.1) y1.1))))) then
  Option.bind (exponent n (List.take ((List.length (List.take ((List.length y1.1) - (Int.toNat y2.1)) (List.drop (Int.toNat y2.1) y1.1))) - (Int.toNat (IntKind.wrap .i64 ((1 : Int) + y4.1)))) (List.drop (Int.toNat (IntKind.wrap .i64 ((1 : Int) + y4.1))) (List.take ((List.length y1.1) - (Int.toNat y2.1)) (List.drop (Int.toNat y2.1) y1.1))))) fun y5 =>
  Option.bind (bif (!y5.2.1) then
    some true
   else
   bif ((List.take ((Int.toNat y2.1) - 0) (List.drop 0 y1.1)) == ([] : List UInt8)) then
    bif ((List.take ((Int.toNat (IntKind.wrap .i64 ((1 : Int) + y4.1))) - 1) (List.drop 1 (List.take ((List.length y1.1) - (Int.toNat y2.1)) (List.drop (Int.toNat y2.1) y1.1)))) == ([] : List UInt8)) then
     some true
    else
    some (ilt (5000 : Int) (IntKind.wrap .i64 ((len (List.take ((Int.toNat y2.1) - 0) (List.drop 0 y1.1))) + (len (List.take ((Int.toNat (IntKind.wrap .i64 ((1 : Int) + y4.1))) - 1) (List.drop 1 (List.take ((List.length y1.1) - (Int.toNat y2.1)) (List.drop (Int.toNat y2.1) y1.1))))))))
   else
   some (ilt (5000 : Int) (IntKind.wrap .i64 ((len (List.take ((Int.toNat y2.1) - 0) (List.drop 0 y1.1))) + (len (List.take ((Int.toNat (IntKind.wrap .i64 ((1 : Int) + y4.1))) - 1) (List.drop 1 (List.take ((List.length y1.1) - (Int.toNat y2.1)) (List.drop (Int.toNat y2.1) y1.1))))))))) fun b7 =>
  bif b7 then
   some ((false, (([] : List UInt8), ((0 : Int), (0 : Int)))), false, ())
  else
  bif (room ((List.length (List.take ((Int.toNat y2.1) - 0) (List.drop 0 y1.1))) + (List.length (List.take ((Int.toNat (IntKind.wrap .i64 ((1 : Int) + y4.1))) - 1) (List.drop 1 (List.take ((List.length y1.1) - (Int.toNat y2.1)) (List.drop (Int.toNat y2.1) y1.1))))))) then
  Option.bind (whole (n + 3) y1.2.1 ((List.take ((Int.toNat y2.1) - 0) (List.drop 0 y1.1)) ++ (List.take ((Int.toNat (IntKind.wrap .i64 ((1 : Int) + y4.1))) - 1) (List.drop 1 (List.take ((List.length y1.1) - (Int.toNat y2.1)) (List.drop (Int.toNat y2.1) y1.1))))) (IntKind.wrap .i64 (y5.1 - (len (List.take ((Int.toNat (IntKind.wrap .i64 ((1 : Int) + y4.1))) - 1) (List.drop 1 (List.take ((List.length y1.1) - (Int.toNat y2.1)) (List.drop (Int.toNat y2.1) y1.1)))))))) fun y8 =>
  some ((y8.1.1, (y8.1.2.1, (y8.1.2.2.1, y8.1.2.2.2))), true, ())
  else none
  else none
  else none
  else none
  else none
 else
 Option.bind (exponent n (List.take ((List.length y1.1) - (Int.toNat y2.1)) (List.drop (Int.toNat y2.1) y1.1))) fun y9 =>
 Option.bind (bif (!y9.2.1) then
   some true
  else
  bif ((List.take ((Int.toNat y2.1) - 0) (List.drop 0 y1.1)) == ([] : List UInt8)) then
   some true
  else
  some (ilt (5000 : Int) (IntKind.wrap .i64 ((len (List.take ((Int.toNat y2.1) - 0) (List.drop 0 y1.1))) + (0 : Int))))) fun b11 =>
 bif b11 then
  some ((false, (([] : List UInt8), ((0 : Int), (0 : Int)))), false, ())
 else
 bif (room ((List.length (List.take ((Int.toNat y2.1) - 0) (List.drop 0 y1.1))) + (List.length ([] : List UInt8)))) then
 Option.bind (whole (n + 3) y1.2.1 ((List.take ((Int.toNat y2.1) - 0) (List.drop 0 y1.1)) ++ ([] : List UInt8)) (IntKind.wrap .i64 (y9.1 - (0 : Int)))) fun y12 =>
 some ((y12.1.1, (y12.1.2.1, (y12.1.2.2.1, y12.1.2.2.2))), true, ())
 else none
 else none
 else none
noncomputable def float_it : FnIt := ⟨74, [(false, .str)], [(true, (.cons .bool (.cons .str (.cons (.int .i64) (.int .i64))))), (false, .bool)], 7, fun n x => float n x.1⟩
theorem float_ok (n : Nat) : FnOK Tryz.prog hint shT float_it n :=
  FnOK.of (hk := fun β => (Known.mk [whole_it, exponent_it, hasPrefix_it, count_it, signed_it, named_it] []).hk β) (sh := shT) (fun m _ => KnownOK.hook ((((((KnownOK.nil.fn named_ok).fn signed_ok).fn count_ok).fn hasPrefix_ok).fn exponent_ok).fn whole_ok) m) (fun x => by kernel_rfl)
end Go.Proofs.YtnddpppljnjmcaaGreatDoor
/- Plain functions for the program's. -/
namespace Go.Proofs.YtnddpppljnjmcaaGreatDoor
open Go Go.Iv Go.Gv
set_option maxRecDepth 100000
set_option linter.unusedVariables false
noncomputable def nullS (_n : Nat) (s : List UInt8) : Option (Bool × Unit) :=
 Option.bind (bif (s == ([] : List UInt8)) then
   some true
  else
  bif (s == ([(126 : UInt8)] : List UInt8)) then
   some true
  else
  bif (s == ([(110 : UInt8), (117 : UInt8), (108 : UInt8), (108 : UInt8)] : List UInt8)) then
   some true
  else
  bif (s == ([(78 : UInt8), (117 : UInt8), (108 : UInt8), (108 : UInt8)] : List UInt8)) then
   some true
  else
  some (s == ([(78 : UInt8), (85 : UInt8), (76 : UInt8), (76 : UInt8)] : List UInt8))) fun b1 =>
 some (b1, ())
noncomputable def nullS_it : FnIt := ⟨53, [(false, .str)], [(false, .bool)], 0, fun n x => nullS n x.1⟩
theorem nullS_ok (n : Nat) : FnOK Tryz.prog hint shT nullS_it n :=
  FnOK.of (hk := fun β => (Known.mk [] []).hk β) (sh := shT) (fun m _ => KnownOK.hook KnownOK.nil m) (fun x => by kernel_rfl)
noncomputable def truthS (_n : Nat) (s : List UInt8) : Option (Bool × (Bool × Unit)) :=
 bif (s == ([(116 : UInt8), (114 : UInt8), (117 : UInt8), (101 : UInt8)] : List UInt8)) then
  some (true, true, ())
 else
 bif (s == ([(84 : UInt8), (114 : UInt8), (117 : UInt8), (101 : UInt8)] : List UInt8)) then
  some (true, true, ())
 else
 bif (s == ([(84 : UInt8), (82 : UInt8), (85 : UInt8), (69 : UInt8)] : List UInt8)) then
  some (true, true, ())
 else
 bif (s == ([(102 : UInt8), (97 : UInt8), (108 : UInt8), (115 : UInt8), (101 : UInt8)] : List UInt8)) then
  some (false, true, ())
 else
 bif (s == ([(70 : UInt8), (97 : UInt8), (108 : UInt8), (115 : UInt8), (101 : UInt8)] : List UInt8)) then
  some (false, true, ())
 else
 bif (s == ([(70 : UInt8), (65 : UInt8), (76 : UInt8), (83 : UInt8), (69 : UInt8)] : List UInt8)) then
  some (false, true, ())
 else
 some (false, false, ())
noncomputable def truthS_it : FnIt := ⟨54, [(false, .str)], [(false, .bool), (false, .bool)], 0, fun n x => truthS n x.1⟩
theorem truthS_ok (n : Nat) : FnOK Tryz.prog hint shT truthS_it n :=
  FnOK.of (hk := fun β => (Known.mk [] []).hk β) (sh := shT) (fun m _ => KnownOK.hook KnownOK.nil m) (fun x => by kernel_rfl)
noncomputable def floatS (n : Nat) (s : List UInt8) : Option ((Bool × (List UInt8 × (Int × Int))) × (Bool × Unit)) :=
 Option.bind (float n s) fun y0 =>
 bif y0.2.1 then
  some ((y0.1.1, (y0.1.2.1, (y0.1.2.2.1, y0.1.2.2.2))), true, ())
 else
 Option.bind (int (n + 2) s) fun y1 =>
 some ((y1.1.1, (y1.1.2.1, (y1.1.2.2.1, y1.1.2.2.2))), y1.2.1, ())
noncomputable def floatS_it : FnIt := ⟨56, [(false, .str)], [(true, (.cons .bool (.cons .str (.cons (.int .i64) (.int .i64))))), (false, .bool)], 8, fun n x => floatS n x.1⟩
theorem floatS_ok (n : Nat) : FnOK Tryz.prog hint shT floatS_it n :=
  FnOK.of (hk := fun β => (Known.mk [int_it, float_it] []).hk β) (sh := shT) (fun m _ => KnownOK.hook ((KnownOK.nil.fn float_ok).fn int_ok) m) (fun x => by kernel_rfl)
noncomputable def valueS (n : Nat) (tag : List UInt8) (s : List UInt8) : Option ((Int × (Bool × ((Bool × (List UInt8 × (Int × Int))) × List UInt8))) × (Int × Unit)) :=
 bif (tag == ([(116 : UInt8), (97 : UInt8), (103 : UInt8), (58 : UInt8), (121 : UInt8), (97 : UInt8), (109 : UInt8), (108 : UInt8), (46 : UInt8), (111 : UInt8), (114 : UInt8), (103 : UInt8), (44 : UInt8), (50 : UInt8), (48 : UInt8), (48 : UInt8), (50 : UInt8), (58 : UInt8), (110 : UInt8), (117 : UInt8), (108 : UInt8), (108 : UInt8)] : List UInt8)) then
  Option.bind (nullS (n + 8) s) fun y0 =>
  bif (!y0.1) then
   some (((0 : Int), (false, ((false, (([] : List UInt8), ((0 : Int), (0 : Int)))), ([] : List UInt8)))), (15 : Int), ())
  else
  some (((1 : Int), (false, ((false, (([] : List UInt8), ((0 : Int), (0 : Int)))), ([] : List UInt8)))), (0 : Int), ())
 else
 bif (tag == ([(116 : UInt8), (97 : UInt8), (103 : UInt8), (58 : UInt8), (121 : UInt8), (97 : UInt8), (109 : UInt8), (108 : UInt8), (46 : UInt8), (111 : UInt8), (114 : UInt8), (103 : UInt8), (44 : UInt8), (50 : UInt8), (48 : UInt8), (48 : UInt8), (50 : UInt8), (58 : UInt8), (98 : UInt8), (111 : UInt8), (111 : UInt8), (108 : UInt8)] : List UInt8)) then
  Option.bind (truthS (n + 8) s) fun y1 =>
  bif (!y1.2.1) then
   some (((0 : Int), (false, ((false, (([] : List UInt8), ((0 : Int), (0 : Int)))), ([] : List UInt8)))), (15 : Int), ())
  else
  some (((2 : Int), (y1.1, ((false, (([] : List UInt8), ((0 : Int), (0 : Int)))), ([] : List UInt8)))), (0 : Int), ())
 else
 bif (tag == ([(116 : UInt8), (97 : UInt8), (103 : UInt8), (58 : UInt8), (121 : UInt8), (97 : UInt8), (109 : UInt8), (108 : UInt8), (46 : UInt8), (111 : UInt8), (114 : UInt8), (103 : UInt8), (44 : UInt8), (50 : UInt8), (48 : UInt8), (48 : UInt8), (50 : UInt8), (58 : UInt8), (105 : UInt8), (110 : UInt8), (116 : UInt8)] : List UInt8)) then
  Option.bind (int (n + 3) s) fun y2 =>
  bif (!y2.2.1) then
   some (((0 : Int), (false, ((false, (([] : List UInt8), ((0 : Int), (0 : Int)))), ([] : List UInt8)))), (15 : Int), ())
  else
  some (((3 : Int), (false, ((y2.1.1, (y2.1.2.1, (y2.1.2.2.1, y2.1.2.2.2))), ([] : List UInt8)))), (0 : Int), ())
 else
 bif (tag == ([(116 : UInt8), (97 : UInt8), (103 : UInt8), (58 : UInt8), (121 : UInt8), (97 : UInt8), (109 : UInt8), (108 : UInt8), (46 : UInt8), (111 : UInt8), (114 : UInt8), (103 : UInt8), (44 : UInt8), (50 : UInt8), (48 : UInt8), (48 : UInt8), (50 : UInt8), (58 : UInt8), (102 : UInt8), (108 : UInt8), (111 : UInt8), (97 : UInt8), (116 : UInt8)] : List UInt8)) then
  Option.bind (floatS n s) fun y3 =>
  bif (!y3.2.1) then
   some (((0 : Int), (false, ((false, (([] : List UInt8), ((0 : Int), (0 : Int)))), ([] : List UInt8)))), (15 : Int), ())
  else
  some (((4 : Int), (false, ((y3.1.1, (y3.1.2.1, (y3.1.2.2.1, y3.1.2.2.2))), ([] : List UInt8)))), (0 : Int), ())
 else
 some (((5 : Int), (false, ((false, (([] : List UInt8), ((0 : Int), (0 : Int)))), s))), (0 : Int), ())
noncomputable def valueS_it : FnIt := ⟨42, [(false, .str), (false, .str)], [(true, (.cons (.int .i64) (.cons .bool (.cons (.cons .bool (.cons .str (.cons (.int .i64) (.int .i64)))) .str)))), (false, (.int .i64))], 9, fun n x => valueS n x.1 x.2.1⟩
theorem valueS_ok (n : Nat) : FnOK Tryz.prog hint shT valueS_it n :=
  FnOK.of (hk := fun β => (Known.mk [floatS_it, int_it, truthS_it, nullS_it] []).hk β) (sh := shT) (fun m _ => KnownOK.hook ((((KnownOK.nil.fn nullS_ok).fn truthS_ok).fn int_ok).fn floatS_ok) m) (fun x => by kernel_rfl)
end Go.Proofs.YtnddpppljnjmcaaGreatDoor
/- Plain functions for the program's. -/
namespace Go.Proofs.YtnddpppljnjmcaaGreatDoor
open Go Go.Iv Go.Gv
set_option maxRecDepth 100000
set_option linter.unusedVariables false
noncomputable def valuesE (_n : Nat) (v : (Int × (Bool × ((Bool × (List UInt8 × (Int × Int))) × List UInt8)))) (w : (Int × (Bool × ((Bool × (List UInt8 × (Int × Int))) × List UInt8)))) : Option (Bool × Unit) :=
 bif (v.1 != w.1) then
  some (false, ())
 else
 bif (v.1 == (2 : Int)) then
  some ((v.2.1 == w.2.1), ())
 else
 bif (v.1 == (3 : Int)) then
  Option.bind (bif (v.2.2.1.1 == w.2.2.1.1) then
    bif (v.2.2.1.2.1 == w.2.2.1.2.1) then
     bif (v.2.2.1.2.2.1 == w.2.2.1.2.2.1) then
      some (v.2.2.1.2.2.2 == w.2.2.1.2.2.2)
     else
     some false
    else
    some false
   else
   some false) fun b1 =>
  some (b1, ())
 else
 bif (v.1 == (4 : Int)) then
  Option.bind (bif (v.2.2.1.1 == w.2.2.1.1) then
    bif (v.2.2.1.2.1 == w.2.2.1.2.1) then
     bif (v.2.2.1.2.2.1 == w.2.2.1.2.2.1) then
      some (v.2.2.1.2.2.2 == w.2.2.1.2.2.2)
     else
     some false
    else
    some false
   else
   some false) fun b3 =>
  some (b3, ())
 else
 bif (v.1 == (5 : Int)) then
  some ((v.2.2.2 == w.2.2.2), ())
 else
 some (true, ())
noncomputable def valuesE_it : FnIt := ⟨16, [(true, (.cons (.int .i64) (.cons .bool (.cons (.cons .bool (.cons .str (.cons (.int .i64) (.int .i64)))) .str)))), (true, (.cons (.int .i64) (.cons .bool (.cons (.cons .bool (.cons .str (.cons (.int .i64) (.int .i64)))) .str))))], [(false, .bool)], 0, fun n x => valuesE n x.1 x.2.1⟩
theorem valuesE_ok (n : Nat) : FnOK Tryz.prog hint shT valuesE_it n :=
  FnOK.of (hk := fun β => (Known.mk [] []).hk β) (sh := shT) (fun m _ => KnownOK.hook KnownOK.nil m) (fun x => by kernel_rfl)
noncomputable def alike (n : Nat) (x : (Int × (List UInt8 × (List UInt8 × (List Int × Bool))))) (y : (Int × (List UInt8 × (List UInt8 × (List Int × Bool))))) : Option (Bool × Unit) :=
 Option.bind (bif (x.1 != y.1) then
   some true
  else
  bif (!(x.2.1 == y.2.1)) then
   some true
  else
  some ((len x.2.2.2.1) != (len y.2.2.2.1))) fun b1 =>
 bif b1 then
  some (false, ())
 else
 bif (x.1 != (1 : Int)) then
  some (true, ())
 else
 Option.bind (valueS n x.2.1 x.2.2.1) fun y2 =>
 Option.bind (valueS n y.2.1 y.2.2.1) fun y3 =>
 Option.bind (bif (y2.2.1 == (0 : Int)) then
   some (y3.2.1 == (0 : Int))
  else
  some false) fun b5 =>
 bif b5 then
  Option.bind (valuesE (n + 9) (y2.1.1, (y2.1.2.1, ((y2.1.2.2.1.1, (y2.1.2.2.1.2.1, (y2.1.2.2.1.2.2.1, y2.1.2.2.1.2.2.2))), y2.1.2.2.2))) (y3.1.1, (y3.1.2.1, ((y3.1.2.2.1.1, (y3.1.2.2.1.2.1, (y3.1.2.2.1.2.2.1, y3.1.2.2.1.2.2.2))), y3.1.2.2.2)))) fun y6 =>
  some (y6.1, ())
 else
 some ((x.2.2.1 == y.2.2.1), ())
noncomputable def alike_it : FnIt := ⟨30, [(true, (.cons (.int .i64) (.cons .str (.cons .str (.cons (.slc (.int .i64)) .bool))))), (true, (.cons (.int .i64) (.cons .str (.cons .str (.cons (.slc (.int .i64)) .bool)))))], [(false, .bool)], 10, fun n x => alike n x.1 x.2.1⟩
theorem alike_ok (n : Nat) : FnOK Tryz.prog hint shT alike_it n :=
  FnOK.of (hk := fun β => (Known.mk [valuesE_it, valueS_it] []).hk β) (sh := shT) (fun m _ => KnownOK.hook ((KnownOK.nil.fn valueS_ok).fn valuesE_ok) m) (fun x => by kernel_rfl)
noncomputable def L21_12_Xexit2 : Tm := ⟨[(3, .one (.fix (TV.ptr 64 0))), (7, .one (.fix (TV.ptr 65 0))), (8, .one (.all 73 61 (.cons (.int .i64) (.int .i64)) .no))], [(64, .cells 25 [.lst (.cons (.int .i64) (.cons .str (.cons .str (.cons (.slc (.int .i64)) .bool)))), .lst (.int .i64)] true), (65, .cells 58 [.fix (TV.mp 67)] true), (66, .cells 61 [.int .i64, .int .i64] true), (67, .map 61 true false (.cons (.int .i64) (.int .i64)) .bool false), (70, .cells 61 [.int .i64, .int .i64] true), (71, .cells 31 [.int .i64, .str, .str, .lst (.int .i64), .bool] true), (72, .cells 31 [.int .i64, .str, .str, .lst (.int .i64), .bool] true)], 73, 74, 2014⟩
noncomputable def L21_12_T : Tm := ⟨[(3, .one (.fix (TV.ptr 64 0))), (7, .one (.fix (TV.ptr 65 0))), (8, .one (.all 73 61 (.cons (.int .i64) (.int .i64)) .no)), (11, .one (.fix (TV.ptr 72 0))), (59, .one (.lst (.int .i64))), (60, .one (.int .i64)), (61, .one (.int .i64))], [(64, .cells 25 [.lst (.cons (.int .i64) (.cons .str (.cons .str (.cons (.slc (.int .i64)) .bool)))), .lst (.int .i64)] true), (65, .cells 58 [.fix (TV.mp 67)] true), (66, .cells 61 [.int .i64, .int .i64] true), (67, .map 61 true false (.cons (.int .i64) (.int .i64)) .bool false), (70, .cells 61 [.int .i64, .int .i64] true), (71, .cells 31 [.int .i64, .str, .str, .lst (.int .i64), .bool] true), (72, .cells 31 [.int .i64, .str, .str, .lst (.int .i64), .bool] true)], 73, 74, 2014⟩
noncomputable def L21_12 : Nat → (List (Int × Int)) → (List Int) → Int → Int → (List (Int × (List UInt8 × (List UInt8 × (List Int × Bool))))) → (List Int) → Int → Int → (List ((Int × Int) × Bool)) → Int → Int → Int → (List UInt8) → (List UInt8) → (List Int) → Bool → Int → (List UInt8) → (List UInt8) → (List Int) → Bool → Option ((Unit × (Unit × ((List (Int × Int)) × Unit))) × (((List (Int × (List UInt8 × (List UInt8 × (List Int × Bool))))) × ((List Int) × Unit)) × ((Unit × Unit) × ((Int × (Int × Unit)) × ((List ((Int × Int) × Bool)) × ((Int × (Int × Unit)) × ((Int × ((List UInt8) × ((List UInt8) × ((List Int) × (Bool × Unit))))) × ((Int × ((List UInt8) × ((List UInt8) × ((List Int) × (Bool × Unit))))) × Unit))))))))
 | 0, _, _, _, _, _, _, _, _, _, _, _, _, _, _, _, _, _, _, _, _, _ => none
 | n + 1, t8, t59, t60, t61, c64_0, c64_1, c66_0, c66_1, m67, c70_0, c70_1, c71_0, c71_1, c71_2, c71_3, c71_4, c72_0, c72_1, c72_2, c72_3, c72_4 =>
  bif (ilt t61 t60) then
   bif (ile (0 : Int) t61) then
   Option.bind (t59[(Int.toNat t61)]?) fun x8 =>
   bif (ile (0 : Int) t61) then
   Option.bind (c72_3[(Int.toNat t61)]?) fun x9 =>
   bif (mgetD (Sh.cons (Sh.int Go.IntKind.i64) (Sh.int Go.IntKind.i64)) m67 (x8, x9) false) then
    L21_12 n t8 t59 t60 (IntKind.wrap .i64 (t61 + (1 : Int))) c64_0 c64_1 c66_0 c66_1 m67 c70_0 c70_1 c71_0 c71_1 c71_2 c71_3 c71_4 c72_0 c72_1 c72_2 c72_3 c72_4
   else
   bif (room (((List.length t8) + (List.length ((x8, x9) :: []))) * 17)) then
   L21_12 n (t8 ++ ((x8, x9) :: [])) t59 t60 (IntKind.wrap .i64 (t61 + (1 : Int))) c64_0 c64_1 c66_0 c66_1 (mput (Sh.cons (Sh.int Go.IntKind.i64) (Sh.int Go.IntKind.i64)) m67 (x8, x9) true) c70_0 c70_1 c71_0 c71_1 c71_2 c71_3 c71_4 c72_0 c72_1 c72_2 c72_3 c72_4
   else none
   else none
   else none
  else
  some (((), ((), (t8, ()))), ((c64_0, (c64_1, ())), (((), ()), ((c66_0, (c66_1, ())), (m67, ((c70_0, (c70_1, ())), ((c71_0, (c71_1, (c71_2, (c71_3, (c71_4, ()))))), ((c72_0, (c72_1, (c72_2, (c72_3, (c72_4, ()))))), ()))))))))
noncomputable def L21_12_it : LoopIt := ⟨21, 12, none, L21_12_T, [(.exit 2, L21_12_Xexit2)], 1, fun n x => L21_12 n x.1.2.2.1 x.1.2.2.2.2.1 x.1.2.2.2.2.2.1 x.1.2.2.2.2.2.2.1 x.2.1.1 x.2.1.2.1 x.2.2.2.1.1 x.2.2.2.1.2.1 x.2.2.2.2.1 x.2.2.2.2.2.1.1 x.2.2.2.2.2.1.2.1 x.2.2.2.2.2.2.1.1 x.2.2.2.2.2.2.1.2.1 x.2.2.2.2.2.2.1.2.2.1 x.2.2.2.2.2.2.1.2.2.2.1 x.2.2.2.2.2.2.1.2.2.2.2.1 x.2.2.2.2.2.2.2.1.1 x.2.2.2.2.2.2.2.1.2.1 x.2.2.2.2.2.2.2.1.2.2.1 x.2.2.2.2.2.2.2.1.2.2.2.1 x.2.2.2.2.2.2.2.1.2.2.2.2.1⟩
theorem L21_12_Xexit2_ok : L21_12_Xexit2.ok Tryz.prog hint := by
  intro p hp
  simp only [L21_12_Xexit2, List.mem_cons, List.not_mem_nil, or_false] at hp
  rcases hp with rfl | rfl | rfl | rfl | rfl | rfl | rfl
  · trivial
  · trivial
  · trivial
  · trivial
  · trivial
  · trivial
  · trivial
theorem L21_12_T_ok : L21_12_T.ok Tryz.prog hint := by
  intro p hp
  simp only [L21_12_T, List.mem_cons, List.not_mem_nil, or_false] at hp
  rcases hp with rfl | rfl | rfl | rfl | rfl | rfl | rfl
  · trivial
  · trivial
  · trivial
  · trivial
  · trivial
  · trivial
  · trivial
theorem L21_12_ok : ∀ n, LoopOK Tryz.prog hint shT L21_12_it n :=
  LoopOK.of (hk := fun β => (Known.mk [] []).hk β) (sh := shT) (OneLoop.of (by kernel_rfl)) L21_12_T_ok ⟨⟨L21_12_Xexit2_ok, Nat.le_refl _, Nat.le_refl _⟩, trivial⟩ (fun m => KnownOK.hook KnownOK.nil m)
    (fun _ => by kernel_rfl) (fun m x => by kernel_rfl)
noncomputable def L21_4_Xexit0 : Tm := ⟨[], [(64, .cells 25 [.lst (.cons (.int .i64) (.cons .str (.cons .str (.cons (.slc (.int .i64)) .bool)))), .lst (.int .i64)] true), (65, .cells 58 [.fix (TV.mp 67)] true), (66, .cells 61 [.int .i64, .int .i64] true), (67, .map 61 true false (.cons (.int .i64) (.int .i64)) .bool false)], 69, 69, 1007⟩
noncomputable def L21_4_Xret : Tm := ⟨[(6, .one (.bool))], [(64, .cells 25 [.lst (.cons (.int .i64) (.cons .str (.cons .str (.cons (.slc (.int .i64)) .bool)))), .lst (.int .i64)] true), (65, .cells 58 [.fix (TV.mp 67)] true), (66, .cells 61 [.int .i64, .int .i64] true), (67, .map 61 true false (.cons (.int .i64) (.int .i64)) .bool false)], 69, 69, 1007⟩
noncomputable def L21_4_T : Tm := ⟨[(3, .one (.fix (TV.ptr 64 0))), (7, .one (.fix (TV.ptr 65 0))), (8, .one (.all 69 61 (.cons (.int .i64) (.int .i64)) .no))], [(64, .cells 25 [.lst (.cons (.int .i64) (.cons .str (.cons .str (.cons (.slc (.int .i64)) .bool)))), .lst (.int .i64)] true), (65, .cells 58 [.fix (TV.mp 67)] true), (66, .cells 61 [.int .i64, .int .i64] true), (67, .map 61 true false (.cons (.int .i64) (.int .i64)) .bool false)], 69, 70, 1007⟩
noncomputable def L21_4 : Nat → (List (Int × Int)) → (List (Int × (List UInt8 × (List UInt8 × (List Int × Bool))))) → (List Int) → Int → Int → (List ((Int × Int) × Bool)) → Option ((Unit × (((List (Int × (List UInt8 × (List UInt8 × (List Int × Bool))))) × ((List Int) × Unit)) × ((Unit × Unit) × ((Int × (Int × Unit)) × ((List ((Int × Int) × Bool)) × Unit))))) ⊕ ((Bool × Unit) × (((List (Int × (List UInt8 × (List UInt8 × (List Int × Bool))))) × ((List Int) × Unit)) × ((Unit × Unit) × ((Int × (Int × Unit)) × ((List ((Int × Int) × Bool)) × Unit))))))
 | 0, _, _, _, _, _, _ => none
 | n + 1, t8, c64_0, c64_1, c66_0, c66_1, m67 =>
  bif (ilt (0 : Int) (len t8)) then
   bif ((ile (0 : Int) (IntKind.wrap .i64 ((len t8) - (1 : Int)))) && (ilt (IntKind.wrap .i64 ((len t8) - (1 : Int))) (len t8))) then
   Option.bind (t8[(Int.toNat (IntKind.wrap .i64 ((len t8) - (1 : Int))))]?) fun x16 =>
   bif ((ile (0 : Int) (IntKind.wrap .i64 ((len t8) - (1 : Int)))) && (ile (IntKind.wrap .i64 ((len t8) - (1 : Int))) (len t8))) then
   bif (ile (0 : Int) x16.1) then
   Option.bind (c64_0[(Int.toNat x16.1)]?) fun x17 =>
   bif (ile (0 : Int) x16.2) then
   Option.bind (c64_0[(Int.toNat x16.2)]?) fun x18 =>
   bif (x16.1 == x16.2) then
    L21_4 n (List.take ((Int.toNat (IntKind.wrap .i64 ((len t8) - (1 : Int)))) - 0) (List.drop 0 t8)) c64_0 c64_1 c66_0 c66_1 m67
   else
   Option.bind (alike (n + 1) (x17.1, (x17.2.1, (x17.2.2.1, (x17.2.2.2.1, x17.2.2.2.2)))) (x18.1, (x18.2.1, (x18.2.2.1, (x18.2.2.2.1, x18.2.2.2.2))))) fun y19 =>
   bif (!y19.1) then
    some (.inr ((false, ()), ((c64_0, (c64_1, ())), (((), ()), ((c66_0, (c66_1, ())), (m67, ()))))))
   else
   Option.bind (L21_12 (n + 11) (List.take ((Int.toNat (IntKind.wrap .i64 ((len t8) - (1 : Int)))) - 0) (List.drop 0 t8)) x17.2.2.2.1 (len x17.2.2.2.1) (0 : Int) c64_0 c64_1 c66_0 c66_1 m67 x16.1 x16.2 x17.1 x17.2.1 x17.2.2.1 x17.2.2.2.1 x17.2.2.2.2 x18.1 x18.2.1 x18.2.2.1 x18.2.2.2.1 x18.2.2.2.2) fun y20 =>
   L21_4 n y20.1.2.2.1 y20.2.1.1 y20.2.1.2.1 y20.2.2.2.1.1 y20.2.2.2.1.2.1 y20.2.2.2.2.1
   else none
   else none
   else none
   else none
  else
  some (.inl ((), ((c64_0, (c64_1, ())), (((), ()), ((c66_0, (c66_1, ())), (m67, ()))))))
noncomputable def L21_4_it : LoopIt := ⟨21, 4, none, L21_4_T, [(.exit 0, L21_4_Xexit0), (.ret, L21_4_Xret)], 11, fun n x => L21_4 n x.1.2.2.1 x.2.1.1 x.2.1.2.1 x.2.2.2.1.1 x.2.2.2.1.2.1 x.2.2.2.2.1⟩
theorem L21_4_Xexit0_ok : L21_4_Xexit0.ok Tryz.prog hint := by
  intro p hp
  simp only [L21_4_Xexit0, List.mem_cons, List.not_mem_nil, or_false] at hp
  rcases hp with rfl | rfl | rfl | rfl
  · trivial
  · trivial
  · trivial
  · trivial
theorem L21_4_Xret_ok : L21_4_Xret.ok Tryz.prog hint := by
  intro p hp
  simp only [L21_4_Xret, List.mem_cons, List.not_mem_nil, or_false] at hp
  rcases hp with rfl | rfl | rfl | rfl
  · trivial
  · trivial
  · trivial
  · trivial
theorem L21_4_T_ok : L21_4_T.ok Tryz.prog hint := by
  intro p hp
  simp only [L21_4_T, List.mem_cons, List.not_mem_nil, or_false] at hp
  rcases hp with rfl | rfl | rfl | rfl
  · trivial
  · trivial
  · trivial
  · trivial
theorem L21_4_ok : ∀ n, LoopOK Tryz.prog hint shT L21_4_it n :=
  LoopOK.of (hk := fun β => (Known.mk [alike_it] [L21_12_it]).hk β) (sh := shT) (OneLoop.of (by kernel_rfl)) L21_4_T_ok ⟨⟨L21_4_Xexit0_ok, Nat.le_refl _, Nat.le_refl _⟩, ⟨L21_4_Xret_ok, Nat.le_refl _, Nat.le_refl _⟩, trivial⟩ (fun m => KnownOK.hook ((KnownOK.nil.fn alike_ok).loop L21_12_ok L21_12_T_ok) m)
    (fun _ => by kernel_rfl) (fun m x => by kernel_rfl)
noncomputable def equalG (n : Nat) (g : (List (Int × (List UInt8 × (List UInt8 × (List Int × Bool)))) × List Int)) (a : Int) (b : Int) : Option (Bool × Unit) :=
 Option.bind (L21_4 n ((a, b) :: []) g.1 g.2 a b (mput (Sh.cons (Sh.int Go.IntKind.i64) (Sh.int Go.IntKind.i64)) [] (a, b) true)) fun y21 =>
 match y21 with
  | .inl _ =>
   some (true, ())
  | .inr y23 =>
   some (y23.1.1, ())
noncomputable def equalG_it : FnIt := ⟨21, [(true, (.cons (.slc (.cons (.int .i64) (.cons .str (.cons .str (.cons (.slc (.int .i64)) .bool))))) (.slc (.int .i64)))), (false, (.int .i64)), (false, (.int .i64))], [(false, .bool)], 11, fun n x => equalG n x.1 x.2.1 x.2.2.1⟩
theorem equalG_ok (n : Nat) : FnOK Tryz.prog hint shT equalG_it n :=
  FnOK.of (hk := fun β => (Known.mk [] [L21_4_it]).hk β) (sh := shT) (fun m _ => KnownOK.hook (KnownOK.nil.loop L21_4_ok L21_4_T_ok) m) (fun x => by kernel_rfl)
noncomputable def sameEqual (n : Nat) (g : (List (Int × (List UInt8 × (List UInt8 × (List Int × Bool)))) × List Int)) (a : Int) (b : Int) : Option (Bool × Unit) :=
 bif (ile (0 : Int) a) then
  bif (ilt a (len g.1)) then
   bif (ile (0 : Int) b) then
    bif (ilt b (len g.1)) then
     Option.bind (right (n + 4) (g.1, g.2)) fun y0 =>
     bif y0.1 then
      Option.bind (equalG n (g.1, g.2) a b) fun y1 =>
      some (y1.1, ())
     else
     some (false, ())
    else
    some (false, ())
   else
   some (false, ())
  else
  some (false, ())
 else
 some (false, ())
noncomputable def sameEqual_it : FnIt := ⟨11, [(true, (.cons (.slc (.cons (.int .i64) (.cons .str (.cons .str (.cons (.slc (.int .i64)) .bool))))) (.slc (.int .i64)))), (false, (.int .i64)), (false, (.int .i64))], [(false, .bool)], 12, fun n x => sameEqual n x.1 x.2.1 x.2.2.1⟩
theorem sameEqual_ok (n : Nat) : FnOK Tryz.prog hint shT sameEqual_it n :=
  FnOK.of (hk := fun β => (Known.mk [equalG_it, right_it] []).hk β) (sh := shT) (fun m _ => KnownOK.hook ((KnownOK.nil.fn right_ok).fn equalG_ok) m) (fun x => by kernel_rfl)
end Go.Proofs.YtnddpppljnjmcaaGreatDoor
/- The document's decoding of bytes. -/
namespace Go.Proofs.YtnddpppljnjmcaaGreatDoor
open Go Go.Iv Go.Gv
set_option maxRecDepth 10000
theorem tkd {α : Type} (l : List α) (k : Nat) : List.take (l.length - k) (List.drop k l) = List.drop k l := List.take_of_length_le (by simp)
theorem at_drop {α : Type} {l r : List α} {i : Nat} (h : l.drop i = r) (k : Nat) : l[i + k]? = r[k]? := by rw [← h, List.getElem?_drop]
theorem roomle {n : Nat} (h : n ≤ 1099511627776) : room n = true := room_ok h
def okc (c : Int) : Bool := decide (0 ≤ c ∧ c ≤ 1114111 ∧ (c < 55296 ∨ 57343 < c))
theorem right_spec (n : Nat) (c : Int) : rightP n c = some (okc c, ()) := by
  unfold rightP okc
  rw [ile_eq, ile_eq, ilt_eq, ilt_eq]
  by_cases h1 : (0 : Int) ≤ c <;> by_cases h2 : c ≤ 1114111 <;> by_cases h3 : c < 55296 <;> simp only [h1, h2, h3, decide_true, decide_false, cond_true, cond_false, true_and, false_and, true_or, false_or, Bool.decide_and, Option.bind_some]
def cont (x : UInt8) : Prop := 128 ≤ ub x ∧ ub x ≤ 191
instance (x : UInt8) : Decidable (cont x) := inferInstanceAs (Decidable (_ ∧ _))
def v2 (a b : UInt8) : Int := (ub a % 32) * 64 + ub b % 64
def v3 (a b c : UInt8) : Int := ((ub a % 16) * 64 + ub b % 64) * 64 + ub c % 64
def v4 (a b c d : UInt8) : Int := (((ub a % 8) * 64 + ub b % 64) * 64 + ub c % 64) * 64 + ub d % 64
def pt : List UInt8 → Option (Int × Nat)
  | [] => none
  | a :: r =>
    if ub a < 128 then some (ub a, 1)
    else if ub a < 194 then none
    else if ub a < 224 then match r with
      | b :: _ => if cont b then some (v2 a b, 2) else none
      | _ => none
    else if ub a < 240 then match r with
      | b :: c :: _ => if cont b ∧ cont c ∧ 2048 ≤ v3 a b c ∧ okc (v3 a b c) = true then some (v3 a b c, 3) else none
      | _ => none
    else if ub a < 245 then match r with
      | b :: c :: d :: _ => if cont b ∧ cont c ∧ cont d ∧ 65536 ≤ v4 a b c d ∧ okc (v4 a b c d) = true then some (v4 a b c d, 4) else none
      | _ => none
    else none
theorem pt_ok {l : List UInt8} {c : Int} {k : Nat} (h : pt l = some (c, k)) : okc c = true ∧ 1 ≤ k ∧ k ≤ l.length ∧ 0 ≤ c ∧ c ≤ 1114111 := by
  have fin : ∀ {c : Int} {k : Nat}, okc c = true → 1 ≤ k → k ≤ l.length → okc c = true ∧ 1 ≤ k ∧ k ≤ l.length ∧ 0 ≤ c ∧ c ≤ 1114111 := fun h1 h2 h3 => by
    have := of_decide_eq_true h1; exact ⟨h1, h2, h3, by omega, by omega⟩
  unfold pt at h
  match l, h with
  | a :: r, h =>
    have ha := ub_lt a
    dsimp only at h
    split at h
    · cases h; exact fin (decide_eq_true (by omega)) (by omega) (by simp)
    split at h
    · cases h
    split at h
    · split at h
      · split at h
        · cases h
          refine fin (decide_eq_true ?_) (by omega) (by simp)
          unfold v2; omega
        · cases h
      · cases h
    split at h
    · split at h
      · split at h
        · rename_i hh; cases h; exact fin hh.2.2.2 (by omega) (by simp)
        · cases h
      · cases h
    split at h
    · split at h
      · split at h
        · rename_i hh; cases h; exact fin hh.2.2.2.2 (by omega) (by simp)
        · cases h
      · cases h
    · cases h
theorem and63 {x : Int} (h1 : 0 ≤ x) (h2 : x < 1000) : andI .i64 x 63 = x % 64 := andI_i64 6 (by decide) x h1 (by omega)
theorem and31 {x : Int} (h1 : 0 ≤ x) (h2 : x < 1000) : andI .i64 x 31 = x % 32 := andI_i64 5 (by decide) x h1 (by omega)
theorem and15 {x : Int} (h1 : 0 ≤ x) (h2 : x < 1000) : andI .i64 x 15 = x % 16 := andI_i64 4 (by decide) x h1 (by omega)
theorem and7 {x : Int} (h1 : 0 ≤ x) (h2 : x < 1000) : andI .i64 x 7 = x % 8 := andI_i64 3 (by decide) x h1 (by omega)
theorem cstep (n : Nat) (b : List UInt8) (N L c : Int) (k : Nat) (y : UInt8) (hk : b[k]? = some y) (hN : (k : Int) < N) (hN2 : N < 100) (h1 : 0 ≤ c) (h2 : c < 1099511627776) :
    L37_23 (n + 1) b N L c (k : Int) = if cont y then L37_23 n b N L (c * 64 + ub y % 64) ((k + 1 : Nat) : Int) else some (.inr ((0, (0, ())), ())) := by
  have hy := ub_lt y
  have w : IntKind.wrap .i64 ((k : Int) + 1) = ((k + 1 : Nat) : Int) := by rw [wrap_id] <;> omega
  have e0 : (Int.toNat (k : Int)) = k := rfl
  conv => lhs; unfold L37_23
  simp only [ilt_t hN, ile_t (show (0 : Int) ≤ k by omega), cond_true, e0, hk, Option.bind_some, ub_wrap, w]
  by_cases h3 : ub y < 128
  · rw [ilt_t h3, if_neg (fun h => by have := h.1; omega)]; rfl
  · rw [ilt_f (show 128 ≤ ub y by omega), cond_false]
    by_cases h4 : 191 < ub y
    · rw [ilt_t h4, if_neg (fun h => by have := h.2; omega)]; rfl
    · rw [ilt_f (show ub y ≤ 191 by omega), if_pos ⟨by omega, by omega⟩]
      simp only [Option.bind_some, cond_false]
      rw [and63 (by omega) (by omega), wrap_id (x := c * 64) (by omega) (by omega), wrap_id (by omega) (by omega)]
theorem cend (n : Nat) (b : List UInt8) (N L c : Int) : L37_23 (n + 1) b N L c N = some (.inl ((N, (L, (c, ()))), ())) := by
  simp only [L37_23, ilt_f (show N ≤ N by omega), cond_false]
def rp : Option (Int × Nat) → Int × (Int × Unit)
  | some (c, k) => (c, ((k : Int), ()))
  | none => (0, (0, ()))
theorem tail_spec (n : Nat) (L c N : Int) :
    (bif Go.Iv.ilt c L then some (0, (0, ())) else Option.bind (rightP n c) fun y => bif !y.1 then some (0, (0, ())) else some (c, (N, ()))) = if L ≤ c ∧ okc c = true then some (c, (N, ())) else some ((0 : Int), ((0 : Int), ())) := by
  rw [right_spec]
  by_cases h : c < L
  · rw [ilt_t h, if_neg (fun hh => by omega)]; rfl
  · rw [ilt_f (by omega)]
    cases okc c with
    | false => rw [if_neg (fun hh => by cases hh.2)]; rfl
    | true => rw [if_pos ⟨by omega, rfl⟩]; rfl
theorem pointR_spec (n : Nat) (a : UInt8) (r : List UInt8) (hn : 10 ≤ n) (hr : r.length < 10000000) : pointR n (a :: r) = some (rp (pt (a :: r))) := by
  obtain ⟨n, rfl⟩ : ∃ m, n = m + 10 := ⟨n - 10, by omega⟩
  have ha := ub_lt a
  have hp := pt.eq_def (a :: r)
  dsimp only at hp
  rw [hp]
  unfold pointR
  simp only [List.getElem?_cons_zero, Option.bind_some, ub_wrap, len]
  by_cases h1 : ub a < 128
  · rw [ilt_t h1, if_pos h1]; rfl
  rw [ilt_f (show 128 ≤ ub a by omega), if_neg h1]
  simp only [cond_true, cond_false, Option.bind_some]
  by_cases h2 : ub a < 194
  · rw [ile_f h2, if_pos h2, ile_f (show ub a < 224 by omega), ile_f (show ub a < 240 by omega)]; rfl
  rw [ile_t (show 194 ≤ ub a by omega), if_neg h2]
  simp only [cond_true, cond_false, Option.bind_some]
  by_cases h3 : ub a < 224
  · rw [ilt_t h3, if_pos h3]
    simp only [cond_true, cond_false, Option.bind_some]
    match r, hr with
    | [], _ => rfl
    | b :: s, hr =>
      have hb := ub_lt b
      simp only [List.length_cons] at hr ⊢
      rw [ilt_f (show (2 : Int) ≤ ((s.length + 1 + 1 : Nat) : Int) by omega), and31 (by omega) (by omega)]
      have s1 := cstep (n + 10) (a :: b :: s) 2 128 (ub a % 32) 1 b rfl (by decide) (by decide) (by omega) (by omega)
      have s2 := cend (n + 9) (a :: b :: s) 2 128 (ub a % 32 * 64 + ub b % 64)
      simp only [cond_true, cond_false, Option.bind_some]
      refine (congrArg (fun z => Option.bind z _) s1).trans ?_
      by_cases hc : cont b
      · rw [if_pos hc, if_pos hc]
        refine (congrArg (fun z => Option.bind z _) s2).trans ?_
        simp only [Option.bind_some]
        rw [tail_spec, if_pos ⟨by omega, decide_eq_true (by omega)⟩]
        rfl
      · rw [if_neg hc, if_neg hc]; rfl
  rw [ilt_f (show 224 ≤ ub a by omega), if_neg h3]
  simp only [cond_true, cond_false, Option.bind_some]
  rw [ile_t (show 224 ≤ ub a by omega)]
  simp only [cond_true, cond_false, Option.bind_some]
  by_cases h4 : ub a < 240
  · rw [ilt_t h4, if_pos h4]
    simp only [cond_true, cond_false, Option.bind_some]
    match r, hr with
    | [], _ => rfl
    | [b], _ => rfl
    | b :: c :: s, hr =>
      have hb := ub_lt b
      have hc := ub_lt c
      simp only [List.length_cons] at hr ⊢
      rw [ilt_f (show (3 : Int) ≤ ((s.length + 1 + 1 + 1 : Nat) : Int) by omega), and15 (by omega) (by omega)]
      have s1 := cstep (n + 10) (a :: b :: c :: s) 3 2048 (ub a % 16) 1 b rfl (by decide) (by decide) (by omega) (by omega)
      have s2 := cstep (n + 9) (a :: b :: c :: s) 3 2048 (ub a % 16 * 64 + ub b % 64) 2 c rfl (by decide) (by decide) (by omega) (by omega)
      have s3 := cend (n + 8) (a :: b :: c :: s) 3 2048 (v3 a b c)
      simp only [cond_true, cond_false, Option.bind_some]
      refine (congrArg (fun z => Option.bind z _) s1).trans ?_
      by_cases hb2 : cont b
      · rw [if_pos hb2]
        refine (congrArg (fun z => Option.bind z _) s2).trans ?_
        by_cases hc2 : cont c
        · rw [if_pos hc2]
          refine (congrArg (fun z => Option.bind z _) s3).trans ?_
          simp only [Option.bind_some]
          rw [tail_spec]
          by_cases hv : 2048 ≤ v3 a b c ∧ okc (v3 a b c) = true
          · rw [if_pos hv, if_pos ⟨hb2, hc2, hv⟩]; rfl
          · rw [if_neg hv, if_neg (fun h => hv h.2.2)]; rfl
        · rw [if_neg hc2, if_neg (fun h => hc2 h.2.1)]; rfl
      · rw [if_neg hb2, if_neg (fun h => hb2 h.1)]; rfl
  rw [ilt_f (show 240 ≤ ub a by omega), if_neg h4]
  simp only [cond_true, cond_false, Option.bind_some]
  rw [ile_t (show 240 ≤ ub a by omega)]
  simp only [cond_true, cond_false, Option.bind_some]
  by_cases h5 : ub a < 245
  · rw [ilt_t h5, if_pos h5]
    simp only [cond_true, cond_false, Option.bind_some]
    match r, hr with
    | [], _ => rfl
    | [b], _ => rfl
    | [b, c], _ => rfl
    | b :: c :: d :: s, hr =>
      have hb := ub_lt b
      have hc := ub_lt c
      have hd := ub_lt d
      simp only [List.length_cons] at hr ⊢
      rw [ilt_f (show (4 : Int) ≤ ((s.length + 1 + 1 + 1 + 1 : Nat) : Int) by omega), and7 (by omega) (by omega)]
      have s1 := cstep (n + 10) (a :: b :: c :: d :: s) 4 65536 (ub a % 8) 1 b rfl (by decide) (by decide) (by omega) (by omega)
      have s2 := cstep (n + 9) (a :: b :: c :: d :: s) 4 65536 (ub a % 8 * 64 + ub b % 64) 2 c rfl (by decide) (by decide) (by omega) (by omega)
      have s3 := cstep (n + 8) (a :: b :: c :: d :: s) 4 65536 ((ub a % 8 * 64 + ub b % 64) * 64 + ub c % 64) 3 d rfl (by decide) (by decide) (by omega) (by omega)
      have s4 := cend (n + 7) (a :: b :: c :: d :: s) 4 65536 (v4 a b c d)
      simp only [cond_true, cond_false, Option.bind_some]
      refine (congrArg (fun z => Option.bind z _) s1).trans ?_
      by_cases hb2 : cont b
      · rw [if_pos hb2]
        refine (congrArg (fun z => Option.bind z _) s2).trans ?_
        by_cases hc2 : cont c
        · rw [if_pos hc2]
          refine (congrArg (fun z => Option.bind z _) s3).trans ?_
          by_cases hd2 : cont d
          · rw [if_pos hd2]
            refine (congrArg (fun z => Option.bind z _) s4).trans ?_
            simp only [Option.bind_some]
            rw [tail_spec]
            by_cases hv : 65536 ≤ v4 a b c d ∧ okc (v4 a b c d) = true
            · rw [if_pos hv, if_pos ⟨hb2, hc2, hd2, hv⟩]; rfl
            · rw [if_neg hv, if_neg (fun h => hv h.2.2.2)]; rfl
          · rw [if_neg hd2, if_neg (fun h => hd2 h.2.2.1)]; rfl
        · rw [if_neg hc2, if_neg (fun h => hc2 h.2.1)]; rfl
      · rw [if_neg hb2, if_neg (fun h => hb2 h.1)]; rfl
  rw [ilt_f (show 245 ≤ ub a by omega), if_neg h5]
  rfl
attribute [local irreducible] pointR pt smallR rightP
def d8 : Nat → List UInt8 → Option (List Int)
  | _, [] => some []
  | 0, _ :: _ => none
  | n + 1, a :: r => match pt (a :: r) with
    | none => none
    | some (c, k) => (d8 n ((a :: r).drop k)).map (c :: ·)
theorem sR (b : List UInt8) (hb : b.length < 4194304) : ∀ (m : Nat) (r : List UInt8) (n i : Nat) (o : List Int), r.length ≤ m → b.drop i = r → i ≤ b.length → o.length + r.length < 10000000 → m + 12 ≤ n →
    L25_3 n b o (i : Int) = match d8 m r with
      | some xs => some (.inl ((o ++ xs, ()), ()))
      | none => some (.inr (((), (false, ())), ())) := by
  intro m
  induction m with
  | zero =>
    intro r n i o hm hr hi ho hn
    obtain ⟨n, rfl⟩ : ∃ k, n = k + 1 := ⟨n - 1, by omega⟩
    have : r = [] := List.length_eq_zero_iff.1 (by omega)
    subst this
    have hlen : b.length ≤ i := by simpa using hr
    simp only [L25_3, len, ilt_f (show (b.length : Int) ≤ i by omega), cond_false, d8, List.append_nil]
  | succ m ih =>
    intro r n i o hm hr hi ho hn
    obtain ⟨n, rfl⟩ : ∃ k, n = k + 1 := ⟨n - 1, by omega⟩
    have hlen : b.length = i + r.length := by rw [← hr]; simp; omega
    cases r with
    | nil =>
      simp at hlen
      simp only [L25_3, len, ilt_f (show (b.length : Int) ≤ i by omega), cond_false, d8, List.append_nil]
    | cons a r =>
      simp only [List.length_cons] at hlen hm ho
      have e0 : (Int.toNat (i : Int)) = i := rfl
      have hd0 : List.take (b.length - i) (List.drop i b) = a :: r := (tkd b i).trans hr
      simp only [L25_3, len, ilt_t (show (i : Int) < b.length by omega), ile_t (show (0 : Int) ≤ i by omega), ile_t (show (i : Int) ≤ b.length by omega), Bool.and_self, cond_true, e0, hd0, pointR_spec (n + 1) a r (by omega) (by omega), Option.bind_some, d8]
      cases hp : pt (a :: r) with
      | none => rfl
      | some q =>
        obtain ⟨c, k⟩ := q
        obtain ⟨k1, k2, k3, k4, k5⟩ := pt_ok hp
        simp only [List.length_cons] at k3
        have w : IntKind.wrap .i64 ((i : Int) + k) = ((i + k : Nat) : Int) := by rw [wrap_id] <;> omega
        have z : ((k : Int) == 0) = false := by rw [beq_eq_false_iff_ne]; omega
        have hd : b.drop (i + k) = (a :: r).drop k := by rw [← List.drop_drop, hr]
        simp only [rp, z, cond_false, List.length_cons, List.length_nil, roomle (show (o.length + (0 + 1)) * 9 ≤ 1099511627776 by omega), cond_true, w]
        rw [ih ((a :: r).drop k) n (i + k) (o ++ [c]) (by simp; omega) hd (by omega) (by simp; omega) (by omega)]
        cases d8 m ((a :: r).drop k) with
        | none => rfl
        | some xs => simp only [Option.map_some, List.append_assoc, List.cons_append, List.nil_append]
theorem smallR_spec (n : Nat) (b : List UInt8) (hb : b.length < 4194304) (hn : b.length + 12 ≤ n) : smallR n b = some (match d8 b.length b with
    | some xs => (xs, (true, ()))
    | none => ([], (false, ()))) := by
  unfold smallR
  rw [show (0 : Int) = ((0 : Nat) : Int) from rfl, sR b hb b.length b n 0 [] (by omega) rfl (by omega) (by simp; omega) hn]
  cases d8 b.length b <;> rfl
end Go.Proofs.YtnddpppljnjmcaaGreatDoor
/- Which tags may be: the program's way and the document's. -/
namespace Go.Proofs.YtnddpppljnjmcaaGreatDoor
open Go Go.Iv Go.Gv
set_option maxRecDepth 10000
def hexB (c : Int) : Bool := decide ((48 ≤ c ∧ c ≤ 57) ∨ (97 ≤ c ∧ c ≤ 102) ∨ (65 ≤ c ∧ c ≤ 70))
def wordB (c : Int) : Bool := decide ((48 ≤ c ∧ c ≤ 57) ∨ (97 ≤ c ∧ c ≤ 122) ∨ (65 ≤ c ∧ c ≤ 90) ∨ c = 45)
def sg : List UInt8 := [35, 59, 47, 63, 58, 64, 38, 61, 43, 36, 44, 95, 46, 33, 126, 42, 39, 40, 41, 91, 93]
def amg (l : List UInt8) (c : Int) : Bool := l.any fun x => ub x == c
theorem bnd (a b c : Int) : (bif Go.Iv.ile a c then some (Go.Iv.ile c b) else some Bool.false) = some (decide (a ≤ c ∧ c ≤ b)) := by
  rw [ile_eq, ile_eq]
  by_cases h1 : a ≤ c <;> by_cases h2 : c ≤ b <;> simp [h1, h2]
theorem hex_spec (n : Nat) (c : Int) : ∃ v, hex n c = some (v, ()) ∧ Go.Iv.ile 0 v = hexB c := by
  unfold hex hexB
  simp only [bnd, Option.bind_some]
  by_cases h1 : 48 ≤ c ∧ c ≤ 57
  · rw [decide_eq_true h1]
    refine ⟨_, rfl, ?_⟩
    rw [wrap_id (by omega) (by omega), ile_t (by omega), decide_eq_true (.inl h1)]
  rw [decide_eq_false h1]
  by_cases h2 : 97 ≤ c ∧ c ≤ 102
  · rw [decide_eq_true h2]
    refine ⟨_, rfl, ?_⟩
    rw [wrap_id (x := c - 97) (by omega) (by omega), wrap_id (by omega) (by omega), ile_t (by omega), decide_eq_true (.inr (.inl h2))]
  rw [decide_eq_false h2]
  by_cases h3 : 65 ≤ c ∧ c ≤ 70
  · rw [decide_eq_true h3]
    refine ⟨_, rfl, ?_⟩
    rw [wrap_id (x := c - 65) (by omega) (by omega), wrap_id (by omega) (by omega), ile_t (by omega), decide_eq_true (.inr (.inr h3))]
  rw [decide_eq_false h3]
  refine ⟨_, rfl, ?_⟩
  rw [ile_f (by omega), decide_eq_false (by omega)]
theorem hexR_spec (n : Nat) (c : Int) : ∃ v, hexR n c = some (v, ()) ∧ Go.Iv.ile 0 v = hexB c := hex_spec n c
theorem word_spec (n : Nat) (c : Int) : word n c = some (wordB c, ()) := by
  unfold word wordB
  simp only [bnd, Option.bind_some]
  by_cases h1 : 48 ≤ c ∧ c ≤ 57 <;> by_cases h2 : 97 ≤ c ∧ c ≤ 122 <;> by_cases h3 : 65 ≤ c ∧ c ≤ 90 <;> by_cases h4 : c = 45 <;>
    first
    | (exfalso; omega)
    | simp [h1, h2, h3, h4]
theorem wordR_spec (n : Nat) (c : Int) : wordR n c = some (wordB c, ()) := by
  unfold wordR wordB
  simp only [ile_eq]
  by_cases h1 : 48 ≤ c <;> by_cases h2 : c ≤ 57 <;> by_cases h3 : 97 ≤ c <;> by_cases h4 : c ≤ 122 <;> by_cases h5 : 65 ≤ c <;> by_cases h6 : c ≤ 90 <;> by_cases h7 : c = 45 <;>
    first
    | (exfalso; omega)
    | simp [h1, h2, h3, h4, h5, h6, h7]
theorem among_loop (s : List UInt8) (c : Int) (hs : s.length < 1000000) : ∀ (r : List UInt8) (i n : Nat), s.drop i = r → r.length + 1 ≤ n → i ≤ s.length → L66_2 n s c (i : Int) = if amg r c then some (.inr ((true, ()), ())) else some (.inl ((), ())) := by
  intro r
  induction r with
  | nil =>
    intro i n hr hn hi
    obtain ⟨n, rfl⟩ : ∃ k, n = k + 1 := ⟨n - 1, by omega⟩
    have hlen : s.length ≤ i := by simpa using hr
    simp only [L66_2, len, ilt_f (show (s.length : Int) ≤ i by omega), cond_false]
    rfl
  | cons x r ih =>
    intro i n hr hn hi
    obtain ⟨n, rfl⟩ : ∃ k, n = k + 1 := ⟨n - 1, by omega⟩
    have hlen : s.length = i + (r.length + 1) := by
      have := congrArg List.length hr
      simp at this; omega
    have hx : s[i]? = some x := by have := at_drop hr 0; simpa using this
    have hr2 : s.drop (i + 1) = r := by rw [← List.drop_drop, hr]; rfl
    have w : IntKind.wrap .i64 ((i : Int) + 1) = ((i + 1 : Nat) : Int) := by rw [wrap_id] <;> omega
    have e0 : (Int.toNat (i : Int)) = i := rfl
    simp only [L66_2, len, ilt_t (show (i : Int) < s.length by omega), ile_t (show (0 : Int) ≤ i by omega), cond_true, e0, hx, Option.bind_some, ub_wrap, w]
    cases hb : (ub x == c) with
    | true => simp [amg, hb]
    | false =>
      simp only [cond_false]
      rw [ih (i + 1) n hr2 (by simp at hn; omega) (by omega)]
      simp [amg, hb]
theorem amongR_spec (n : Nat) (s : List UInt8) (c : Int) (hs : s.length < 1000000) (hn : s.length ≤ n) : amongR n s c = some (amg s c, ()) := by
  unfold amongR
  rw [show (0 : Int) = ((0 : Nat) : Int) from rfl, among_loop s c hs s 0 (n + 1) rfl (by omega) (by omega)]
  cases amg s c <;> rfl
theorem sgn_loop (c : Int) (q : List Int) : ∀ (r : List UInt8) (i n : Nat), sg.drop i = r → r.length + 1 ≤ n → i ≤ 21 → L86_10 n (c :: q) sg 21 (i : Int) = if amg r c then some (.inr ((1, ()), ())) else some (.inl ((), ())) := by
  intro r
  induction r with
  | nil =>
    intro i n hr hn hi
    obtain ⟨n, rfl⟩ : ∃ k, n = k + 1 := ⟨n - 1, by omega⟩
    have hlen : sg.length ≤ i := by simpa using hr
    have : sg.length = 21 := rfl
    simp only [L86_10, ilt_f (show (21 : Int) ≤ i by omega), cond_false]
    rfl
  | cons x r ih =>
    intro i n hr hn hi
    obtain ⟨n, rfl⟩ : ∃ k, n = k + 1 := ⟨n - 1, by omega⟩
    have hlen : 21 = i + (r.length + 1) := by
      have := congrArg List.length hr
      have h21 : sg.length = 21 := rfl
      simp only [List.length_drop, List.length_cons, h21] at this; omega
    have hx : sg[i]? = some x := by have := at_drop hr 0; simpa using this
    have hr2 : sg.drop (i + 1) = r := by rw [← List.drop_drop, hr]; rfl
    have w : IntKind.wrap .i64 ((i : Int) + 1) = ((i + 1 : Nat) : Int) := by rw [wrap_id] <;> omega
    have e0 : (Int.toNat (i : Int)) = i := rfl
    simp only [L86_10, ilt_t (show (i : Int) < 21 by omega), ile_t (show (0 : Int) ≤ i by omega), cond_true, e0, hx, Option.bind_some, ub_wrap, w, List.getElem?_cons_zero]
    have hc : (c == ub x) = (ub x == c) := by rw [Bool.eq_iff_iff, beq_iff_eq, beq_iff_eq]; exact eq_comm
    rw [hc]
    cases hb : (ub x == c) with
    | true => simp [amg, hb]
    | false =>
      simp only [cond_false]
      rw [ih (i + 1) n hr2 (by simp at hn; omega) (by omega)]
      simp [amg, hb]
def stepU : List Int → Nat
  | [] => 0
  | c :: r => if c = 37 then (match r with
      | a :: b :: _ => bif hexB a && hexB b then 3 else 0
      | _ => 0) else bif wordB c then 1 else bif amg sg c then 1 else 0
theorem stepU_le : ∀ l : List Int, stepU l ≤ l.length := by
  intro l
  cases l with
  | nil => exact Nat.le_refl _
  | cons c r =>
    simp only [stepU]
    by_cases hc : c = 37
    · rw [if_pos hc]
      match r with
      | [] => simp
      | [a] => simp
      | a :: b :: r => cases h1 : hexB a <;> cases h2 : hexB b <;> simp [h1, h2]
    · rw [if_neg hc]
      cases h1 : wordB c <;> cases h2 : amg sg c <;> simp
theorem sign_spec (n : Nat) (l : List Int) (hn : 30 ≤ n) (hl : l.length < 1000000000) : sign n l = some (((stepU l : Nat) : Int), ()) := by
  unfold sign
  cases l with
  | nil => rfl
  | cons c r =>
    have h0 : ((len (c :: r)) == (0 : Int)) = false := by
      rw [beq_eq_false_iff_ne]; simp only [len, List.length_cons]; omega
    simp only [h0, cond_false, List.getElem?_cons_zero, Option.bind_some, stepU]
    cases hc : (c == (37 : Int)) with
    | true =>
      rw [if_pos (eq_of_beq hc)]
      simp only [cond_true, len]
      match r, hl with
      | [], _ => rfl
      | [a], _ => rfl
      | a :: b :: r, hl =>
        simp only [List.length_cons] at hl ⊢
        obtain ⟨v1, e1, f1⟩ := hex_spec n a
        obtain ⟨v2, e2, f2⟩ := hex_spec n b
        rw [ilt_t (by omega)]
        simp only [cond_true, List.getElem?_cons_succ, List.getElem?_cons_zero, Option.bind_some, e1, e2, f1, f2]
        cases hexB a <;> cases hexB b <;> rfl
    | false =>
      rw [if_neg (beq_eq_false_iff_ne.1 hc)]
      simp only [cond_false, word_spec, Option.bind_some]
      cases wordB c with
      | true => rfl
      | false =>
        simp only [cond_false]
        have := sgn_loop c r sg 0 (n + 2) rfl (by have : sg.length = 21 := rfl; omega) (by omega)
        refine (congrArg (fun z => Option.bind z _) this).trans ?_
        cases amg sg c <;> rfl
theorem uriR_spec (n : Nat) (l : List Int) (i : Nat) (hn : 30 ≤ n) (hl : l.length < 1000000000) (hi : i ≤ l.length) : uriR n l (i : Int) = some (((stepU (l.drop i) : Nat) : Int), ()) := by
  unfold uriR
  cases hr : l.drop i with
  | nil =>
    have hlen : l.length ≤ i := by simpa using hr
    simp only [len, ile_t (show (l.length : Int) ≤ i by omega), cond_true]
    rfl
  | cons c r =>
    have hlen : l.length = i + (r.length + 1) := by
      have := congrArg List.length hr
      simp at this; omega
    have hx : l[i]? = some c := by have := at_drop hr 0; simpa using this
    have e0 : (Int.toNat (i : Int)) = i := rfl
    have w1 : IntKind.wrap .i64 ((i : Int) + 1) = ((i + 1 : Nat) : Int) := by rw [wrap_id] <;> omega
    have w2 : IntKind.wrap .i64 ((i : Int) + 2) = ((i + 2 : Nat) : Int) := by rw [wrap_id] <;> omega
    have e1 : (Int.toNat ((i + 1 : Nat) : Int)) = i + 1 := rfl
    have e2 : (Int.toNat ((i + 2 : Nat) : Int)) = i + 2 := rfl
    have ha : amongR n ([(35 : UInt8), (59 : UInt8), (47 : UInt8), (63 : UInt8), (58 : UInt8), (64 : UInt8), (38 : UInt8), (61 : UInt8), (43 : UInt8), (36 : UInt8), (44 : UInt8), (95 : UInt8), (46 : UInt8), (33 : UInt8), (126 : UInt8), (42 : UInt8), (39 : UInt8), (40 : UInt8), (41 : UInt8), (91 : UInt8), (93 : UInt8)] : List UInt8) c = some (amg sg c, ()) := amongR_spec n sg c (by decide) (by have : sg.length = 21 := rfl; omega)
    simp only [len, ile_f (show (i : Int) < l.length by omega), cond_false, ile_t (show (0 : Int) ≤ i by omega), cond_true, e0, hx, Option.bind_some, wordR_spec, ha, w1, w2, e1, e2, stepU]
    cases hc : (c == (37 : Int)) with
    | true =>
      have : c = 37 := eq_of_beq hc
      subst this
      have z1 : wordB 37 = false := by decide
      have z2 : amg sg 37 = false := by decide
      simp only [z1, z2, cond_false, cond_true, if_true]
      match r, hr, hlen with
      | [], hr, hlen => simp only [List.length_nil] at hlen; rw [ilt_f (by omega)]; rfl
      | [a], hr, hlen => simp only [List.length_cons, List.length_nil] at hlen; rw [ilt_f (by omega)]; rfl
      | a :: b :: r, hr, hlen =>
        simp only [List.length_cons] at hlen
        have q1 : l[i + 1]? = some a := by have := at_drop hr 1; simpa using this
        have q2 : l[i + 2]? = some b := by have := at_drop hr 2; simpa using this
        obtain ⟨v1, e1, f1⟩ := hexR_spec (n + 1) a
        obtain ⟨v2, e2, f2⟩ := hexR_spec (n + 1) b
        rw [ilt_t (by omega), ile_t (show (0 : Int) ≤ ((i + 1 : Nat) : Int) by omega), ile_t (show (0 : Int) ≤ ((i + 2 : Nat) : Int) by omega)]
        simp only [cond_true, q1, q2, Option.bind_some, e1, e2, f1, f2]
        cases hexB a <;> cases hexB b <;> rfl
    | false =>
      rw [if_neg (beq_eq_false_iff_ne.1 hc)]
      simp only [cond_false]
      cases wordB c <;> cases amg sg c <;> rfl
def okU : Nat → List Int → Bool
  | _, [] => true
  | 0, _ :: _ => false
  | n + 1, c :: r => bif Nat.beq (stepU (c :: r)) 0 then false else okU n ((c :: r).drop (stepU (c :: r)))
attribute [local irreducible] stepU sign uriR
theorem chainR (l : List Int) (hl : l.length < 100000000) : ∀ (m : Nat) (r : List Int) (i n : Nat), l.drop i = r → r.length ≤ m → i ≤ l.length → m + 40 ≤ n → L38_5 n l (i : Int) = if okU m r then some (.inl ((), ())) else some (.inr ((false, ()), ())) := by
  intro m
  induction m with
  | zero =>
    intro r i n hr hm hi hn
    obtain ⟨n, rfl⟩ : ∃ k, n = k + 1 := ⟨n - 1, by omega⟩
    have : r = [] := List.length_eq_zero_iff.1 (by omega)
    subst this
    have hlen : l.length ≤ i := by simpa using hr
    simp only [L38_5, len, ilt_f (show (l.length : Int) ≤ i by omega), cond_false]
    rfl
  | succ m ih =>
    intro r i n hr hm hi hn
    obtain ⟨n, rfl⟩ : ∃ k, n = k + 1 := ⟨n - 1, by omega⟩
    cases r with
    | nil =>
      have hlen : l.length ≤ i := by simpa using hr
      simp only [L38_5, len, ilt_f (show (l.length : Int) ≤ i by omega), cond_false]
      rfl
    | cons c r =>
      have hlen : l.length = i + (r.length + 1) := by
        have := congrArg List.length hr
        simp at this; omega
      have hs := stepU_le (c :: r)
      simp only [List.length_cons] at hs hm
      simp only [L38_5, len, ilt_t (show (i : Int) < l.length by omega), cond_true, uriR_spec (n + 1) l i (by omega) (by omega) (by omega), hr, Option.bind_some, okU]
      rcases Bool.eq_false_or_eq_true (Nat.beq (stepU (c :: r)) 0) with hz | hz
      · have := Nat.eq_of_beq_eq_true hz
        simp only [this]; rfl
      · have hne : stepU (c :: r) ≠ 0 := fun h => by rw [h] at hz; cases hz
        have z : (((stepU (c :: r) : Nat) : Int) == 0) = false := by rw [beq_eq_false_iff_ne]; omega
        have w : IntKind.wrap .i64 ((i : Int) + ((stepU (c :: r) : Nat) : Int)) = ((i + stepU (c :: r) : Nat) : Int) := by rw [wrap_id] <;> omega
        simp only [z, hz, cond_false, w]
        exact ih _ _ n (by rw [← List.drop_drop, hr]) (by simp; omega) (by omega) (by omega)
theorem chainP (l : List Int) (hl : l.length < 100000000) : ∀ (m : Nat) (r : List Int) (i n : Nat), l.drop i = r → r.length ≤ m → i ≤ l.length → m + 40 ≤ n → ∃ y, L85_1 n (i : Int) l l (i : Int) l = some y ∧ y.2.1 = l ∧ (y.2.2.2.2.1.1 == len l) = okU m r := by
  intro m
  induction m with
  | zero =>
    intro r i n hr hm hi hn
    obtain ⟨n, rfl⟩ : ∃ k, n = k + 1 := ⟨n - 1, by omega⟩
    have : r = [] := List.length_eq_zero_iff.1 (by omega)
    subst this
    have hlen : l.length ≤ i := by simpa using hr
    have e0 : (Int.toNat (i : Int)) = i := rfl
    have hs : stepU [] = 0 := by unfold stepU; rfl
    have hd0 : List.take (l.length - i) (List.drop i l) = [] := (tkd l i).trans hr
    simp only [L85_1, len, ile_t (show (0 : Int) ≤ i by omega), ile_t (show (i : Int) ≤ l.length by omega), Bool.and_self, cond_true, e0, hd0, sign_spec (n + 1) [] (by omega) (by simp), Option.bind_some, hs]
    refine ⟨_, rfl, by rfl, ?_⟩
    show ((i : Int) == (l.length : Int)) = true
    rw [beq_iff_eq]; omega
  | succ m ih =>
    intro r i n hr hm hi hn
    obtain ⟨n, rfl⟩ : ∃ k, n = k + 1 := ⟨n - 1, by omega⟩
    have e0 : (Int.toNat (i : Int)) = i := rfl
    have hrl : r.length ≤ l.length := by rw [← hr]; simp
    have hs := stepU_le r
    have hd0 : List.take (l.length - i) (List.drop i l) = r := (tkd l i).trans hr
    simp only [L85_1, len, ile_t (show (0 : Int) ≤ i by omega), ile_t (show (i : Int) ≤ l.length by omega), Bool.and_self, cond_true, e0, hd0, sign_spec (n + 1) r (by omega) (by omega), Option.bind_some]
    cases r with
    | nil =>
      have hlen : l.length ≤ i := by simpa using hr
      have hs : stepU [] = 0 := by unfold stepU; rfl
      rw [hs]
      refine ⟨_, rfl, by rfl, ?_⟩
      show ((i : Int) == (l.length : Int)) = true
      rw [beq_iff_eq]; omega
    | cons c r =>
      have hlen : l.length = i + (r.length + 1) := by
        have := congrArg List.length hr
        simp at this; omega
      simp only [List.length_cons] at hs hm
      simp only [okU]
      cases hz : Nat.beq (stepU (c :: r)) 0 with
      | true =>
        have := Nat.eq_of_beq_eq_true hz
        rw [this]
        refine ⟨_, rfl, by rfl, ?_⟩
        show ((i : Int) == (l.length : Int)) = false
        rw [beq_eq_false_iff_ne]; omega
      | false =>
        have hne : stepU (c :: r) ≠ 0 := fun h => by rw [h] at hz; cases hz
        have z : (((stepU (c :: r) : Nat) : Int) == 0) = false := by rw [beq_eq_false_iff_ne]; omega
        have w : IntKind.wrap .i64 ((i : Int) + ((stepU (c :: r) : Nat) : Int)) = ((i + stepU (c :: r) : Nat) : Int) := by rw [wrap_id] <;> omega
        have hx : l[i]? = some c := by have := at_drop hr 0; simpa using this
        simp only [z, cond_false, w, hx, Option.bind_some]
        exact ih _ _ n (by rw [← List.drop_drop, hr]) (by simp; omega) (by omega) (by omega)
theorem bytesL (tag : List UInt8) (ht : tag.length < 10000000) : ∀ (r : List UInt8) (i n : Nat) (o : List Int), tag.drop i = r → r.length + 1 ≤ n → i ≤ tag.length → o.length + r.length < 10000000 → L40_3 n o tag (len tag) (i : Int) = some ((o ++ r.map ub, ()), ()) := by
  intro r
  induction r with
  | nil =>
    intro i n o hr hn hi ho
    obtain ⟨n, rfl⟩ : ∃ k, n = k + 1 := ⟨n - 1, by omega⟩
    have hlen : tag.length ≤ i := by simpa using hr
    simp only [L40_3, len, ilt_f (show (tag.length : Int) ≤ i by omega), cond_false, List.map_nil, List.append_nil]
  | cons x r ih =>
    intro i n o hr hn hi ho
    obtain ⟨n, rfl⟩ : ∃ k, n = k + 1 := ⟨n - 1, by omega⟩
    have hlen : tag.length = i + (r.length + 1) := by
      have := congrArg List.length hr
      simp at this; omega
    have hx : tag[i]? = some x := by have := at_drop hr 0; simpa using this
    have hr2 : tag.drop (i + 1) = r := by rw [← List.drop_drop, hr]; rfl
    have w : IntKind.wrap .i64 ((i : Int) + 1) = ((i + 1 : Nat) : Int) := by rw [wrap_id] <;> omega
    have e0 : (Int.toNat (i : Int)) = i := rfl
    simp only [List.length_cons] at hn ho
    simp only [L40_3, len, ilt_t (show (i : Int) < tag.length by omega), ile_t (show (0 : Int) ≤ i by omega), cond_true, e0, hx, Option.bind_some, ub_wrap, w, List.length_cons, List.length_nil, roomle (show (o.length + (0 + 1)) * 9 ≤ 1099511627776 by omega)]
    have := ih (i + 1) n (o ++ [ub x]) hr2 (by omega) (by omega) (by simp; omega)
    simp only [len] at this
    rw [this]
    simp
def validB (tag : List UInt8) : Bool := !tag.isEmpty && okU tag.length (tag.map ub)
theorem valid_spec (n : Nat) (tag : List UInt8) (ht : tag.length < 1000000) (hn : tag.length + 60 ≤ n) : valid n tag = some (validB tag, ()) := by
  unfold valid
  rw [show (0 : Int) = ((0 : Nat) : Int) from rfl, bytesL tag (by omega) tag 0 (n + 5) [] rfl (by omega) (by omega) (by simp; omega)]
  simp only [Option.bind_some, List.nil_append]
  cases tag with
  | nil => rfl
  | cons a r =>
    obtain ⟨y, h1, h2, h3⟩ := chainP ((a :: r).map ub) (by simp at ht ⊢; omega) (a :: r).length ((a :: r).map ub) 0 n rfl (by simp) (by omega) (by omega)
    have : Go.Iv.ilt ((0 : Nat) : Int) (len ((a :: r).map ub)) = true := ilt_t (by simp only [len, List.length_map, List.length_cons]; omega)
    rw [this, cond_true, h1]
    simp only [Option.bind_some]
    rw [h2, h3]
    rfl
theorem textP_spec (n : Nat) (b : List UInt8) (hb : b.length < 4194304) (hn : b.length + 12 ≤ n) : textP n b = some (match d8 b.length b with
    | some xs => (xs, (true, ()))
    | none => ([], (false, ()))) := by
  unfold textP
  rw [smallR_spec n b hb hn]
  cases d8 b.length b <;> rfl
theorem d8_len : ∀ (m : Nat) (b : List UInt8) (xs : List Int), d8 m b = some xs → xs.length ≤ b.length := by
  intro m
  induction m with
  | zero => intro b xs h; cases b with
    | nil => cases h; simp
    | cons => cases h
  | succ m ih =>
    intro b xs h
    cases b with
    | nil => cases h; simp
    | cons a r =>
      unfold d8 at h
      split at h
      · cases h
      · rename_i c k hp
        obtain ⟨k1, k2, k3, k4, k5⟩ := pt_ok hp
        cases hd : d8 m ((a :: r).drop k) with
        | none => rw [hd] at h; cases h
        | some ys =>
          rw [hd] at h; cases h
          have := ih _ _ hd
          simp only [List.length_drop, List.length_cons] at this ⊢
          simp only [List.length_cons] at k3
          omega
def validRB (tag : List UInt8) : Bool := match d8 tag.length tag with
  | some xs => !xs.isEmpty && okU xs.length xs
  | none => false
theorem validR_spec (n : Nat) (tag : List UInt8) (ht : tag.length < 1000000) (hn : tag.length + 60 ≤ n) : validR n tag = some (validRB tag, ()) := by
  unfold validR validRB
  rw [textP_spec n tag (by omega) (by omega)]
  simp only [Option.bind_some]
  cases hd : d8 tag.length tag with
  | none => rfl
  | some xs =>
    have hl := d8_len _ _ _ hd
    simp only [Bool.not_true, cond_false, Option.bind_some]
    cases xs with
    | nil => rfl
    | cons c r =>
      have z : (len (c :: r) == (0 : Int)) = false := by rw [beq_eq_false_iff_ne]; simp only [len, List.length_cons]; omega
      rw [z, cond_false, show (0 : Int) = ((0 : Nat) : Int) from rfl, chainR (c :: r) (by omega) (c :: r).length (c :: r) 0 (n + 1) rfl (Nat.le_refl _) (by omega) (by omega)]
      simp only [List.isEmpty_cons, Bool.not_false, Bool.true_and]
      cases okU (c :: r).length (c :: r) <;> rfl
end Go.Proofs.YtnddpppljnjmcaaGreatDoor
/- Tags and texts: the program's way and the document's are one. -/
namespace Go.Proofs.YtnddpppljnjmcaaGreatDoor
open Go Go.Iv Go.Gv
set_option maxRecDepth 200000
theorem amg_lt {c : Int} (h : amg sg c = true) : 0 ≤ c ∧ c < 128 := by
  unfold amg at h
  rw [List.any_eq_true] at h
  obtain ⟨x, hx, he⟩ := h
  have e := eq_of_beq he
  have : ∀ x ∈ sg, x.toNat < 128 := by decide
  have := this x hx
  have : ub x = (x.toNat : Int) := rfl
  omega
theorem okU_lt : ∀ (m : Nat) (l : List Int), okU m l = true → ∀ c ∈ l, 0 ≤ c ∧ c < 128 := by
  intro m
  induction m with
  | zero => intro l h c hc; cases l with
    | nil => cases hc
    | cons => cases h
  | succ m ih =>
    intro l h c hc
    cases l with
    | nil => cases hc
    | cons x r =>
      unfold okU at h
      simp only [stepU] at h
      by_cases h37 : x = 37
      · simp only [if_pos h37] at h
        match r, h, hc with
        | [], h, hc => cases h
        | [a], h, hc => cases h
        | a :: b :: r, h, hc =>
          cases h1 : hexB a with
          | false => simp [h1] at h
          | true =>
            cases h2 : hexB b with
            | false => simp [h1, h2] at h
            | true =>
              have h := h
              simp [h1, h2] at h
              have q1 := of_decide_eq_true h1
              have q2 := of_decide_eq_true h2
              rcases List.mem_cons.1 hc with e | hc
              · omega
              rcases List.mem_cons.1 hc with e | hc
              · omega
              rcases List.mem_cons.1 hc with e | hc
              · omega
              exact ih r h.2 c hc
      · simp only [if_neg h37] at h
        cases hw : wordB x with
        | true =>
          simp [hw] at h
          have q := of_decide_eq_true hw
          rcases List.mem_cons.1 hc with e | hc
          · omega
          · exact ih r h.2 c hc
        | false =>
          cases ha : amg sg x with
          | false => simp [hw, ha] at h
          | true =>
            simp [hw, ha] at h
            have q := amg_lt ha
            rcases List.mem_cons.1 hc with e | hc
            · omega
            · exact ih r h.2 c hc
theorem pt_low {a : UInt8} {r : List UInt8} {c : Int} {k : Nat} (h : pt (a :: r) = some (c, k)) (hc : c < 128 ∨ k = 1) : ub a < 128 ∧ c = ub a ∧ k = 1 := by
  have ha := ub_lt a
  have hp := pt.eq_def (a :: r)
  dsimp only at hp
  rw [hp] at h
  split at h
  · rename_i q; cases h; exact ⟨q, rfl, rfl⟩
  split at h
  · cases h
  split at h
  · split at h
    · rename_i b s
      have := ub_lt b
      split at h
      · cases h; unfold v2 at hc; omega
      · cases h
    · cases h
  split at h
  · split at h
    · split at h
      · rename_i hh; cases h; have := hh.2.2.1; omega
      · cases h
    · cases h
  split at h
  · split at h
    · split at h
      · rename_i hh; cases h; have := hh.2.2.2.1; omega
      · cases h
    · cases h
  · cases h
theorem d8_ascii : ∀ (m : Nat) (l : List UInt8), l.length ≤ m → (∀ x ∈ l, ub x < 128) → d8 m l = some (l.map ub) := by
  intro m
  induction m with
  | zero => intro l hl h; cases l with
    | nil => rfl
    | cons => simp at hl
  | succ m ih =>
    intro l hl h
    cases l with
    | nil => rfl
    | cons a r =>
      have hp : pt (a :: r) = some (ub a, 1) := by unfold pt; rw [if_pos (h a (List.mem_cons_self ..))]
      unfold d8
      rw [hp]
      simp only [List.drop_succ_cons, List.drop_zero]
      rw [ih r (by simp at hl; omega) (fun x hx => h x (List.mem_cons_of_mem _ hx))]
      rfl
theorem d8_low : ∀ (m : Nat) (l : List UInt8) (xs : List Int), d8 m l = some xs → (∀ c ∈ xs, c < 128) → ∀ x ∈ l, ub x < 128 := by
  intro m
  induction m with
  | zero => intro l xs h _ x hx; cases l with
    | nil => cases hx
    | cons => cases h
  | succ m ih =>
    intro l xs h hc x hx
    cases l with
    | nil => cases hx
    | cons a r =>
      unfold d8 at h
      split at h
      · cases h
      · rename_i c k hp
        cases hd : d8 m ((a :: r).drop k) with
        | none => rw [hd] at h; cases h
        | some ys =>
          rw [hd] at h; cases h
          obtain ⟨q1, q2, rfl⟩ := pt_low hp (.inl (hc c (List.mem_cons_self ..)))
          rcases List.mem_cons.1 hx with e | hx
          · rw [e]; exact q1
          · exact ih r ys hd (fun c hc' => hc c (List.mem_cons_of_mem _ hc')) x hx
theorem valid_eq (tag : List UInt8) : validB tag = validRB tag := by
  by_cases h : ∀ x ∈ tag, ub x < 128
  · unfold validB validRB
    rw [d8_ascii tag.length tag (Nat.le_refl _) h]
    simp
  · have e1 : validB tag = false := by
      cases hv : validB tag with
      | false => rfl
      | true =>
        unfold validB at hv
        have := okU_lt _ _ (Go.Gv.and_true hv).2
        exact absurd (fun x hx => (this (ub x) (List.mem_map.2 ⟨x, hx, rfl⟩)).2) h
    have e2 : validRB tag = false := by
      cases hv : validRB tag with
      | false => rfl
      | true =>
        unfold validRB at hv
        split at hv
        · rename_i xs hd
          have := okU_lt _ _ (Go.Gv.and_true hv).2
          exact absurd (d8_low _ _ _ hd fun c hc => (this c hc).2) h
        · cases hv
    rw [e1, e2]
def dpN : Option (Int × Nat) → Nat × Nat
  | some (c, k) => (c.toNat, k)
  | none => (65533, 1)
set_option maxHeartbeats 4000000 in
theorem dec_pt (a : UInt8) (r : List UInt8) : Go.Lib.decodeL (a :: r) = dpN (pt (a :: r)) := by
  rw [Go.Lib.decodeL_N]
  have ha := a.toNat_lt
  have u : ∀ x : UInt8, ub x = (x.toNat : Int) := fun _ => rfl
  have fin : ∀ {x y : Nat} {k : Nat}, x = y → ((x, k) : Nat × Nat) = (y, k) := fun h => by rw [h]
  match r with
  | [] =>
    show Go.Lib.decodeN 1 a.toNat 0 0 0 = _
    unfold Go.Lib.decodeN
    by_cases h1 : a.toNat < 128
    · have e1 : pt [a] = some (ub a, 1) := by unfold pt; rw [if_pos (by rw [u]; omega)]
      rw [if_pos h1, e1]
      rfl
    · have e1 : pt [a] = none := by
        unfold pt
        rw [if_neg (by rw [u]; omega)]
        repeat' split
        all_goals first | rfl | contradiction
      rw [if_neg h1, if_neg (by omega), if_neg (by omega), if_neg (by omega), e1]
      simp only [dpN]
  | [b] =>
    have hb := b.toNat_lt
    show Go.Lib.decodeN 2 a.toNat b.toNat 0 0 = _
    have hp := pt.eq_def (a :: [b])
    dsimp only at hp
    rw [hp]
    clear hp
    simp only [u, cont, v2, apply_ite dpN]
    unfold Go.Lib.decodeN
    repeat' split
    all_goals first
      | (exfalso; omega)
      | exact fin (by omega)
      | rfl
  | [b, c] =>
    have hb := b.toNat_lt
    have hc := c.toNat_lt
    show Go.Lib.decodeN 3 a.toNat b.toNat c.toNat 0 = _
    have hp := pt.eq_def (a :: [b, c])
    dsimp only at hp
    rw [hp]
    clear hp
    simp only [u, cont, v2, v3, okc, decide_eq_true_eq, apply_ite dpN]
    unfold Go.Lib.decodeN
    repeat' split
    all_goals first
      | (exfalso; omega)
      | exact fin (by omega)
      | rfl
  | b :: c :: d :: s =>
    have hb := b.toNat_lt
    have hc := c.toNat_lt
    have hd := d.toNat_lt
    show Go.Lib.decodeN (s.length + 4) a.toNat b.toNat c.toNat d.toNat = _
    have hp := pt.eq_def (a :: b :: c :: d :: s)
    dsimp only at hp
    rw [hp]
    clear hp
    simp only [u, cont, v2, v3, v4, okc, decide_eq_true_eq, apply_ite dpN]
    unfold Go.Lib.decodeN
    repeat' split
    all_goals first
      | (exfalso; omega)
      | exact fin (by omega)
      | rfl
theorem validD_d8 : ∀ (m : Nat) (l : List UInt8), l.length ≤ m → Go.Lib.validD l = (d8 m l).isSome := by
  intro m
  induction m with
  | zero => intro l hl; cases l with
    | nil => rfl
    | cons => simp at hl
  | succ m ih =>
    intro l hl
    cases l with
    | nil => rfl
    | cons a r =>
      rw [Go.Lib.validD_step _ (by simp), dec_pt a r]
      unfold d8
      cases hp : pt (a :: r) with
      | none => rfl
      | some q =>
        obtain ⟨c, k⟩ := q
        obtain ⟨k1, k2, k3, k4, k5⟩ := pt_ok hp
        have hq : ¬ ((dpN (some (c, k))).1 = 65533 ∧ (dpN (some (c, k))).2 = 1) := fun h => by
          have h1 : c.toNat = 65533 := h.1
          have h2 : k = 1 := h.2
          obtain ⟨q1, q2, _⟩ := pt_low hp (.inr h2)
          omega
        rw [if_neg hq]
        show Go.Lib.validD ((a :: r).drop k) = _
        simp only [List.length_cons] at k3 hl
        rw [ih ((a :: r).drop k) (by simp; omega)]
        dsimp only
        cases d8 m ((a :: r).drop k) <;> rfl
def textB (s : List UInt8) : Bool := decide (s.length ≤ 262144) && (d8 s.length s).isSome
theorem textOk_spec (n : Nat) (s : List UInt8) (hs : s.length < 4194304) : textOk n s = some (textB s, ()) := by
  unfold textOk textB
  rw [ile_eq]
  by_cases h : s.length ≤ 262144
  · rw [decide_eq_true (show len s ≤ 262144 by simp only [len]; omega), decide_eq_true h, cond_true]
    have : Nat.ble (List.length s) 9223372036854775807 = true := by rw [Nat.ble_eq]; omega
    rw [this, validD_d8 s.length s (Nat.le_refl _)]; rfl
  · rw [decide_eq_false (show ¬ len s ≤ 262144 by simp only [len]; omega), decide_eq_false h]; rfl
theorem textOkR_spec (n : Nat) (s : List UInt8) (hs : s.length < 4194304) (hn : s.length + 12 ≤ n) : textOkR n s = some (textB s, ()) := by
  unfold textOkR textB
  rw [textP_spec n s hs hn, ile_eq]
  have : decide (len s ≤ 262144) = decide (s.length ≤ 262144) := by
    rw [decide_eq_decide]; simp only [len]; omega
  rw [this]
  cases d8 s.length s <;> cases decide (s.length ≤ 262144) <;> rfl
end Go.Proofs.YtnddpppljnjmcaaGreatDoor
/- Which graphs may be: the program's way and the document's are one (of graphs that are not too great). -/
namespace Go.Proofs.YtnddpppljnjmcaaGreatDoor
open Go Go.Iv Go.Gv
set_option maxRecDepth 10000
abbrev NodeT := Int × (List UInt8 × (List UInt8 × (List Int × Bool)))
abbrev GraphT := List NodeT × List Int
def inB (N : Nat) (x : Int) : Bool := decide (0 ≤ x ∧ x < (N : Int))
theorem oor (N : Nat) (x : Int) : (bif Go.Iv.ilt x 0 then some Bool.true else some (Go.Iv.ile (N : Int) x)) = some (!(inB N x)) := by
  unfold inB
  by_cases h : x < 0
  · rw [ilt_t h, decide_eq_false (by omega)]; rfl
  · rw [ilt_f (by omega)]
    by_cases h2 : (N : Int) ≤ x
    · rw [ile_t h2, decide_eq_false (by omega)]; rfl
    · rw [ile_f (by omega), decide_eq_true (by omega)]; rfl
theorem are_loop (l : List Int) (g1 : List NodeT) (g2 : List Int) (hl : l.length < 1000000000) : ∀ (r : List Int) (i n : Nat), l.drop i = r → r.length + 1 ≤ n → i ≤ l.length →
    L27_2 n l (len l) (i : Int) g1 g2 = bif r.all (inB g1.length) then some (.inl ((), ((g1, (g2, ())), ()))) else some (.inr ((Bool.false, ()), ((g1, (g2, ())), ()))) := by
  intro r
  induction r with
  | nil =>
    intro i n hr hn hi
    obtain ⟨n, rfl⟩ : ∃ k, n = k + 1 := ⟨n - 1, by omega⟩
    have hlen : l.length ≤ i := by simpa using hr
    simp only [L27_2, len, ilt_f (show (l.length : Int) ≤ i by omega), cond_false]
    rfl
  | cons x r ih =>
    intro i n hr hn hi
    obtain ⟨n, rfl⟩ : ∃ k, n = k + 1 := ⟨n - 1, by omega⟩
    have hlen : l.length = i + (r.length + 1) := by
      have := congrArg List.length hr
      simp at this; omega
    have hx : l[i]? = some x := by have := at_drop hr 0; simpa using this
    have hr2 : l.drop (i + 1) = r := by rw [← List.drop_drop, hr]; rfl
    have w : IntKind.wrap .i64 ((i : Int) + 1) = ((i + 1 : Nat) : Int) := by rw [wrap_id] <;> omega
    have e0 : (Int.toNat (i : Int)) = i := rfl
    have o := oor g1.length x
    simp only [L27_2, len, ilt_t (show (i : Int) < l.length by omega), ile_t (show (0 : Int) ≤ i by omega), cond_true, e0, hx, Option.bind_some, w]
    rw [o]
    simp only [List.all_cons, Option.bind_some]
    cases inB g1.length x with
    | false => rfl
    | true =>
      simp only [Bool.not_true, cond_false, Bool.true_and]
      exact ih (i + 1) n hr2 (by simp at hn; omega) (by omega)
theorem are_spec (n : Nat) (g1 : List NodeT) (g2 l : List Int) (hl : l.length < 1000000000) (hn : l.length + 1 ≤ n) : are n (g1, g2) l = some (l.all (inB g1.length), ()) := by
  unfold are
  rw [show (0 : Int) = ((0 : Nat) : Int) from rfl, are_loop l g1 g2 hl l 0 (n + 1) rfl (by omega) (by omega)]
  cases l.all (inB g1.length) <;> rfl
theorem kids_loop (N : Nat) (k : Int) (a b : List UInt8) (l : List Int) (p : Bool) (hl : l.length < 1000000000) : ∀ (r : List Int) (i n : Nat), l.drop i = r → r.length + 1 ≤ n → i ≤ l.length →
    L26_4 n (N : Int) (i : Int) k a b l p = bif r.all (inB N) then some (.inl (((), ()), ((k, (a, (b, (l, (p, ()))))), ()))) else some (.inr ((Bool.false, ()), ((k, (a, (b, (l, (p, ()))))), ()))) := by
  intro r
  induction r with
  | nil =>
    intro i n hr hn hi
    obtain ⟨n, rfl⟩ : ∃ k, n = k + 1 := ⟨n - 1, by omega⟩
    have hlen : l.length ≤ i := by simpa using hr
    simp only [L26_4, len, ilt_f (show (l.length : Int) ≤ i by omega), cond_false]
    rfl
  | cons x r ih =>
    intro i n hr hn hi
    obtain ⟨n, rfl⟩ : ∃ k, n = k + 1 := ⟨n - 1, by omega⟩
    have hlen : l.length = i + (r.length + 1) := by
      have := congrArg List.length hr
      simp at this; omega
    have hx : l[i]? = some x := by have := at_drop hr 0; simpa using this
    have hr2 : l.drop (i + 1) = r := by rw [← List.drop_drop, hr]; rfl
    have w : IntKind.wrap .i64 ((i : Int) + 1) = ((i + 1 : Nat) : Int) := by rw [wrap_id] <;> omega
    have e0 : (Int.toNat (i : Int)) = i := rfl
    have o := oor N x
    simp only [L26_4, len, ilt_t (show (i : Int) < l.length by omega), ile_t (show (0 : Int) ≤ i by omega), cond_true, e0, hx, Option.bind_some, w]
    rw [o]
    simp only [List.all_cons, Option.bind_some]
    cases inB N x with
    | false => rfl
    | true =>
      simp only [Bool.not_true, cond_false, Bool.true_and]
      exact ih (i + 1) n hr2 (by simp at hn; omega) (by omega)
theorem roots_loop (N : Nat) (g1 : List NodeT) (l : List Int) (hl : l.length < 1000000000) : ∀ (r : List Int) (i n : Nat), l.drop i = r → r.length + 1 ≤ n → i ≤ l.length →
    L19_12 n (N : Int) (i : Int) g1 l = bif r.all (inB N) then some (.inl ((), ((g1, (l, ())), ()))) else some (.inr ((Bool.false, ()), ((g1, (l, ())), ()))) := by
  intro r
  induction r with
  | nil =>
    intro i n hr hn hi
    obtain ⟨n, rfl⟩ : ∃ k, n = k + 1 := ⟨n - 1, by omega⟩
    have hlen : l.length ≤ i := by simpa using hr
    simp only [L19_12, len, ilt_f (show (l.length : Int) ≤ i by omega), cond_false]
    rfl
  | cons x r ih =>
    intro i n hr hn hi
    obtain ⟨n, rfl⟩ : ∃ k, n = k + 1 := ⟨n - 1, by omega⟩
    have hlen : l.length = i + (r.length + 1) := by
      have := congrArg List.length hr
      simp at this; omega
    have hx : l[i]? = some x := by have := at_drop hr 0; simpa using this
    have hr2 : l.drop (i + 1) = r := by rw [← List.drop_drop, hr]; rfl
    have w : IntKind.wrap .i64 ((i : Int) + 1) = ((i + 1 : Nat) : Int) := by rw [wrap_id] <;> omega
    have e0 : (Int.toNat (i : Int)) = i := rfl
    have o := oor N x
    simp only [L19_12, len, ilt_t (show (i : Int) < l.length by omega), ile_t (show (0 : Int) ≤ i by omega), cond_true, e0, hx, Option.bind_some, w]
    rw [o]
    simp only [List.all_cons, Option.bind_some]
    cases inB N x with
    | false => rfl
    | true =>
      simp only [Bool.not_true, cond_false, Bool.true_and]
      exact ih (i + 1) n hr2 (by simp at hn; omega) (by omega)
def kindB (x : NodeT) : Bool :=
  bif x.1 == (1 : Int) then ((len x.2.2.2.1) == (0 : Int)) && textB x.2.2.1
  else bif x.1 == (2 : Int) then (x.2.2.1 == ([] : List UInt8)) && !x.2.2.2.2
  else bif x.1 == (3 : Int) then (x.2.2.1 == ([] : List UInt8)) && (!x.2.2.2.2 && ((Int.tmod (len x.2.2.2.1) (2 : Int)) == (0 : Int)))
  else Bool.false
def nodeO (x : NodeT) : Bool := !(Go.Iv.ilt (1000 : Int) (len x.2.1)) && (!(x.2.1 == ([(33 : UInt8)] : List UInt8)) && (validB x.2.1 && kindB x))
def NB (x : NodeT) : Prop := x.2.1.length ≤ 9000 ∧ x.2.2.1.length ≤ 8100 ∧ x.2.2.2.1.length ≤ 400
attribute [local irreducible] valid validR textOk textOkR validB textB
theorem node_spec (n : Nat) (x : NodeT) (hx : NB x) (hn : 10000 ≤ n) : node n x = some (nodeO x, ()) := by
  obtain ⟨h1, h2, h3⟩ := hx
  unfold node nodeO kindB
  rw [valid_spec n x.2.1 (by omega) (by omega), textOk_spec (n + 4) x.2.2.1 (by omega)]
  simp only [Option.bind_some]
  cases Go.Iv.ilt (1000 : Int) (len x.2.1) with
  | true => rfl
  | false =>
  cases (x.2.1 == ([(33 : UInt8)] : List UInt8)) with
  | true => rfl
  | false =>
  cases validB x.2.1 with
  | false => rfl
  | true =>
  simp only [cond_false, cond_true, Bool.not_false, Bool.not_true, Bool.true_and]
  cases (x.1 == (1 : Int)) with
  | true => cases (len x.2.2.2.1 == (0 : Int)) <;> rfl
  | false =>
  cases (x.1 == (2 : Int)) with
  | true => cases (x.2.2.1 == ([] : List UInt8)) <;> rfl
  | false =>
  cases (x.1 == (3 : Int)) with
  | true => cases (x.2.2.1 == ([] : List UInt8)) <;> cases x.2.2.2.2 <;> rfl
  | false => rfl
theorem nodeR_spec (n N : Nat) (x : NodeT) (hx : NB x) (hn : 10000 ≤ n) : nodeR n x (N : Int) = some (nodeO x && x.2.2.2.1.all (inB N), ()) := by
  obtain ⟨h1, h2, h3⟩ := hx
  unfold nodeR nodeO kindB
  rw [validR_spec n x.2.1 (by omega) (by omega), ← valid_eq, show (0 : Int) = ((0 : Nat) : Int) from rfl, kids_loop N x.1 x.2.1 x.2.2.1 x.2.2.2.1 x.2.2.2.2 (by omega) x.2.2.2.1 0 (n + 5) rfl (by omega) (by omega)]
  simp only [Option.bind_some]
  cases validB x.2.1 with
  | false => cases Go.Iv.ilt (1000 : Int) (len x.2.1) <;> cases (x.2.1 == ([(33 : UInt8)] : List UInt8)) <;> rfl
  | true =>
  cases (x.2.1 == ([(33 : UInt8)] : List UInt8)) with
  | true => cases Go.Iv.ilt (1000 : Int) (len x.2.1) <;> rfl
  | false =>
  cases Go.Iv.ilt (1000 : Int) (len x.2.1) with
  | true => rfl
  | false =>
  simp only [cond_false, cond_true, Bool.not_false, Bool.not_true, Bool.true_and]
  cases x.2.2.2.1.all (inB N) with
  | false => simp only [Bool.and_false]; rfl
  | true =>
  simp only [cond_true, Option.bind_some, Bool.and_true]
  rw [textOkR_spec n x.2.2.1 (by omega) (by omega)]
  cases (x.1 == (1 : Int)) with
  | true => cases (len x.2.2.2.1 == ((0 : Nat) : Int)) <;> rfl
  | false =>
  cases (x.1 == (2 : Int)) with
  | true => cases (x.2.2.1 == ([] : List UInt8)) <;> rfl
  | false =>
  cases (x.1 == (3 : Int)) with
  | true => cases (x.2.2.1 == ([] : List UInt8)) <;> cases x.2.2.2.2 <;> rfl
  | false => rfl
def ksum : List NodeT → Nat
  | [] => 0
  | x :: r => x.2.2.2.1.length + ksum r
def nodeG (N : Nat) (x : NodeT) : Bool := nodeO x && x.2.2.2.1.all (inB N)
attribute [local irreducible] node nodeR nodeO are
theorem nodes_loop (g1 : List NodeT) (g2 : List Int) (hl : g1.length < 1000) (hb : ∀ x ∈ g1, NB x) : ∀ (r : List NodeT) (i n s : Nat), g1.drop i = r → r.length + 10000 ≤ n → i ≤ g1.length → s + ksum r ≤ 20000 →
    L20_5 n (s : Int) g1 (len g1) (i : Int) g1 g2 = bif r.all (nodeG g1.length) then some (.inl ((), ((g1, (g2, ())), ()))) else some (.inr ((Bool.false, ()), ((g1, (g2, ())), ()))) := by
  intro r
  induction r with
  | nil =>
    intro i n s hr hn hi hs
    obtain ⟨n, rfl⟩ : ∃ k, n = k + 1 := ⟨n - 1, by omega⟩
    have hlen : g1.length ≤ i := by simpa using hr
    simp only [L20_5, len, ilt_f (show (g1.length : Int) ≤ i by omega), cond_false]
    rfl
  | cons x r ih =>
    intro i n s hr hn hi hs
    obtain ⟨n, rfl⟩ : ∃ k, n = k + 1 := ⟨n - 1, by omega⟩
    have hlen : g1.length = i + (r.length + 1) := by
      have := congrArg List.length hr
      simp at this; omega
    have hx : g1[i]? = some x := by have := at_drop hr 0; simpa using this
    have hxb : NB x := hb x (List.mem_of_getElem? hx)
    have hr2 : g1.drop (i + 1) = r := by rw [← List.drop_drop, hr]; rfl
    have w : IntKind.wrap .i64 ((i : Int) + 1) = ((i + 1 : Nat) : Int) := by rw [wrap_id] <;> omega
    simp only [ksum] at hs
    simp only [List.length_cons] at hn
    have w2 : IntKind.wrap .i64 ((s : Int) + (x.2.2.2.1.length : Int)) = ((s + x.2.2.2.1.length : Nat) : Int) := by rw [wrap_id] <;> omega
    have e0 : (Int.toNat (i : Int)) = i := rfl
    have hk := hxb.2.2
    simp only [L20_5, len, ilt_t (show (i : Int) < g1.length by omega), ile_t (show (0 : Int) ≤ i by omega), cond_true, e0, hx, Option.bind_some, w, w2, ilt_f (show ((s + x.2.2.2.1.length : Nat) : Int) ≤ 20000 by omega), cond_false]
    rw [node_spec (n + 1) _ hxb (by omega), are_spec (n + 6) g1 g2 x.2.2.2.1 (by omega) (by omega)]
    simp only [Option.bind_some, List.all_cons, nodeG]
    cases nodeO x with
    | false => rfl
    | true =>
      cases x.2.2.2.1.all (inB g1.length) with
      | false => rfl
      | true =>
        simp only [Bool.not_true, cond_false, Bool.true_and]
        exact ih (i + 1) n _ hr2 (by omega) (by omega) (by omega)
theorem nodesR_loop (g1 : List NodeT) (g2 : List Int) (hl : g1.length < 1000) (hb : ∀ x ∈ g1, NB x) : ∀ (r : List NodeT) (i n s : Nat), g1.drop i = r → r.length + 10000 ≤ n → i ≤ g1.length → s + ksum r ≤ 20000 →
    L19_6 n (g1.length : Int) (s : Int) (i : Int) g1 g2 = bif r.all (nodeG g1.length) then some (.inl (((), ((g1.length : Int), ())), ((g1, (g2, ())), ()))) else some (.inr ((Bool.false, ()), ((g1, (g2, ())), ()))) := by
  intro r
  induction r with
  | nil =>
    intro i n s hr hn hi hs
    obtain ⟨n, rfl⟩ : ∃ k, n = k + 1 := ⟨n - 1, by omega⟩
    have hlen : g1.length ≤ i := by simpa using hr
    simp only [L19_6, ilt_f (show (g1.length : Int) ≤ i by omega), cond_false]
    rfl
  | cons x r ih =>
    intro i n s hr hn hi hs
    obtain ⟨n, rfl⟩ : ∃ k, n = k + 1 := ⟨n - 1, by omega⟩
    have hlen : g1.length = i + (r.length + 1) := by
      have := congrArg List.length hr
      simp at this; omega
    have hx : g1[i]? = some x := by have := at_drop hr 0; simpa using this
    have hxb : NB x := hb x (List.mem_of_getElem? hx)
    have hr2 : g1.drop (i + 1) = r := by rw [← List.drop_drop, hr]; rfl
    have w : IntKind.wrap .i64 ((i : Int) + 1) = ((i + 1 : Nat) : Int) := by rw [wrap_id] <;> omega
    simp only [ksum] at hs
    simp only [List.length_cons] at hn
    have w2 : IntKind.wrap .i64 ((s : Int) + (x.2.2.2.1.length : Int)) = ((s + x.2.2.2.1.length : Nat) : Int) := by rw [wrap_id] <;> omega
    have e0 : (Int.toNat (i : Int)) = i := rfl
    simp only [L19_6, len, ilt_t (show (i : Int) < g1.length by omega), ile_t (show (0 : Int) ≤ i by omega), cond_true, e0, hx, Option.bind_some, w, w2, ilt_f (show ((s + x.2.2.2.1.length : Nat) : Int) ≤ 20000 by omega), cond_false]
    rw [nodeR_spec (n + 1) g1.length _ hxb (by omega)]
    simp only [Option.bind_some, List.all_cons, nodeG]
    cases (nodeO x && x.2.2.2.1.all (inB g1.length)) with
    | false => rfl
    | true =>
      simp only [Bool.not_true, cond_false, Bool.true_and]
      exact ih (i + 1) n _ hr2 (by omega) (by omega) (by omega)
def rightG (g : GraphT) : Bool := g.2.all (inB g.1.length) && g.1.all (nodeG g.1.length)
structure GB (g : GraphT) : Prop where
  n : g.1.length ≤ 60
  r : g.2.length ≤ 20
  b : ∀ x ∈ g.1, NB x
  k : ksum g.1 ≤ 400
theorem right_G (n : Nat) (g : GraphT) (hg : GB g) (hn : 20000 ≤ n) : right n g = some (rightG g, ()) := by
  have h1 := hg.n
  have h2 := hg.r
  have h3 := hg.k
  obtain ⟨g1, g2⟩ := g
  simp only at h1 h2 h3
  unfold right rightG
  simp only [len, ilt_f (show (g1.length : Int) ≤ 20000 by omega), ilt_f (show (g2.length : Int) ≤ 20000 by omega), cond_false]
  rw [are_spec (n + 5) g1 g2 g2 (by omega) (by omega)]
  simp only [Option.bind_some]
  have := nodes_loop g1 g2 (by omega) hg.b g1 0 n 0 rfl (by omega) (by omega) (by omega)
  simp only [len, Int.natCast_zero] at this
  rw [this]
  cases g2.all (inB g1.length) <;> cases g1.all (nodeG g1.length) <;> rfl
theorem rightR_G (n : Nat) (g : GraphT) (hg : GB g) (hn : 20000 ≤ n) : rightR n g = some (rightG g, ()) := by
  have h1 := hg.n
  have h2 := hg.r
  have h3 := hg.k
  obtain ⟨g1, g2⟩ := g
  simp only at h1 h2 h3
  unfold rightR rightG
  simp only [len, ilt_f (show (g1.length : Int) ≤ 20000 by omega), ilt_f (show (g2.length : Int) ≤ 20000 by omega), cond_false, Option.bind_some]
  have := nodesR_loop g1 g2 (by omega) hg.b g1 0 n 0 rfl (by omega) (by omega) (by omega)
  simp only [Int.natCast_zero] at this
  rw [this]
  have q := roots_loop g1.length g1 g2 (by omega) g2 0 (n + 6) rfl (by omega) (by omega)
  simp only [Int.natCast_zero] at q
  cases g1.all (nodeG g1.length) with
  | false => simp only [Bool.and_false]; rfl
  | true =>
    simp only [cond_true, Option.bind_some]
    rw [q]
    cases g2.all (inB g1.length) <;> rfl
def wt (x : NodeT) : Nat := x.2.2.2.1.length + x.2.2.1.length / 20 + x.2.1.length / 20
def wsum : List NodeT → Nat
  | [] => 0
  | x :: r => wt x + wsum r
def SB (x : NodeT) : Prop := x.2.1.length ≤ 281474976710656 ∧ x.2.2.1.length ≤ 281474976710656 ∧ x.2.2.2.1.length ≤ 281474976710656
theorem wt_le {x : NodeT} (h : SB x) : wt x ≤ 900000000000000 := by
  obtain ⟨h1, h2, h3⟩ := h
  unfold wt; omega
theorem tdv (k : Nat) : Int.tdiv (k : Int) 20 = ((k / 20 : Nat) : Int) := by
  rw [Int.tdiv_eq_ediv_of_nonneg (by omega)]; omega
theorem big_loop (g1 : List NodeT) (g2 : List Int) (hb : ∀ x ∈ g1, SB x) (hlen : g1.length < 1000000000000000000) : ∀ (m : Nat) (r : List NodeT) (i n s : Nat), g1.drop i = r → i ≤ 100 → 100 - i = m → m + 2 ≤ n → i ≤ g1.length → s ≤ 900000000000000 * i →
    L9_3 n (s : Int) (i : Int) g1 g2 = some (((), (((s + wsum (r.take m) : Nat) : Int), ())), ((g1, (g2, ())), ())) := by
  intro m
  induction m with
  | zero =>
    intro r i n s hr hi hm hn hi2 hs
    obtain ⟨n, rfl⟩ : ∃ k, n = k + 1 := ⟨n - 1, by omega⟩
    have : i = 100 := by omega
    subst this
    simp only [L9_3, ilt_f (show (100 : Int) ≤ ((100 : Nat) : Int) by omega), List.take_zero, wsum, Nat.add_zero]
    cases Go.Iv.ilt ((100 : Nat) : Int) (len g1) <;> rfl
  | succ m ih =>
    intro r i n s hr hi hm hn hi2 hs
    obtain ⟨n, rfl⟩ : ∃ k, n = k + 1 := ⟨n - 1, by omega⟩
    cases r with
    | nil =>
      have hl : g1.length ≤ i := by simpa using hr
      simp only [L9_3, len, ilt_f (show (g1.length : Int) ≤ i by omega), cond_false, Option.bind_some, List.take_nil, wsum, Nat.add_zero]
    | cons x r =>
      have hlen : g1.length = i + (r.length + 1) := by
        have := congrArg List.length hr
        simp at this; omega
      have hx : g1[i]? = some x := by have := at_drop hr 0; simpa using this
      have hxb : SB x := hb x (List.mem_of_getElem? hx)
      have hr2 : g1.drop (i + 1) = r := by rw [← List.drop_drop, hr]; rfl
      have w : IntKind.wrap .i64 ((i : Int) + 1) = ((i + 1 : Nat) : Int) := by rw [wrap_id] <;> omega
      have e0 : (Int.toNat (i : Int)) = i := rfl
      have hw := wt_le hxb
      obtain ⟨q1, q2, q3⟩ := hxb
      have a1 : IntKind.wrap .i64 ((s : Int) + (x.2.2.2.1.length : Int)) = ((s + x.2.2.2.1.length : Nat) : Int) := by rw [wrap_id] <;> omega
      have a2 : IntKind.wrap .i64 ((x.2.2.1.length / 20 : Nat) : Int) = ((x.2.2.1.length / 20 : Nat) : Int) := by rw [wrap_id] <;> omega
      have a3 : IntKind.wrap .i64 ((x.2.1.length / 20 : Nat) : Int) = ((x.2.1.length / 20 : Nat) : Int) := by rw [wrap_id] <;> omega
      have a4 : IntKind.wrap .i64 (((s + x.2.2.2.1.length : Nat) : Int) + ((x.2.2.1.length / 20 : Nat) : Int)) = ((s + x.2.2.2.1.length + x.2.2.1.length / 20 : Nat) : Int) := by rw [wrap_id] <;> omega
      have a5 : IntKind.wrap .i64 (((s + x.2.2.2.1.length + x.2.2.1.length / 20 : Nat) : Int) + ((x.2.1.length / 20 : Nat) : Int)) = ((s + wt x : Nat) : Int) := by unfold wt; rw [wrap_id] <;> omega
      simp only [L9_3, len, ilt_t (show (i : Int) < g1.length by omega), ilt_t (show (i : Int) < 100 by omega), ile_t (show (0 : Int) ≤ i by omega), cond_true, e0, hx, Option.bind_some, w, tdv, a1, a2, a3, a4, a5]
      rw [ih r (i + 1) n (s + wt x) hr2 (by omega) (by omega) (by omega) (by omega) (by omega)]
      simp only [List.take_succ_cons, wsum, Nat.add_assoc]
def bigB (g : GraphT) : Bool := decide (60 < g.1.length ∨ 20 < g.2.length ∨ 400 < wsum (g.1.take 100))
theorem big_spec (n : Nat) (g : GraphT) (hb : ∀ x ∈ g.1, SB x) (h1 : g.1.length < 1000000000000000000) (hn : 200 ≤ n) : big n g = some (bigB g, ()) := by
  obtain ⟨g1, g2⟩ := g
  simp only at hb h1
  unfold big bigB
  have := big_loop g1 g2 hb h1 100 g1 0 (n + 1) 0 rfl (by omega) rfl (by omega) (by omega) (by omega)
  simp only [Int.natCast_zero, Nat.zero_add] at this
  rw [this]
  simp only [Option.bind_some, len]
  by_cases q1 : 60 < g1.length
  · rw [ilt_t (by omega), decide_eq_true (.inl q1)]; rfl
  rw [ilt_f (by omega)]
  by_cases q2 : 20 < g2.length
  · rw [ilt_t (by omega), decide_eq_true (.inr (.inl q2))]; rfl
  rw [ilt_f (by omega)]
  by_cases q3 : 400 < wsum (g1.take 100)
  · rw [ilt_t (by omega), decide_eq_true (.inr (.inr q3))]; rfl
  · rw [ilt_f (by omega), decide_eq_false (by omega)]; rfl
theorem wsum_mem : ∀ {l : List NodeT} {x : NodeT}, x ∈ l → wt x ≤ wsum l := by
  intro l
  induction l with
  | nil => intro x h; cases h
  | cons y r ih =>
    intro x h
    simp only [wsum]
    rcases List.mem_cons.1 h with e | h
    · rw [e]; omega
    · have := ih h; omega
theorem ksum_le : ∀ l : List NodeT, ksum l ≤ wsum l := by
  intro l
  induction l with
  | nil => exact Nat.le_refl _
  | cons y r ih => simp only [wsum, ksum, wt]; omega
theorem GB.of {g : GraphT} (h : bigB g = false) : GB g := by
  have h := of_decide_eq_false h
  have h1 : g.1.length ≤ 60 := by omega
  have ht : g.1.take 100 = g.1 := List.take_of_length_le (by omega)
  rw [ht] at h
  refine ⟨h1, by omega, fun x hx => ?_, ?_⟩
  · have := wsum_mem hx
    unfold wt at this
    exact ⟨by omega, by omega, by omega⟩
  · have := ksum_le g.1; omega
end Go.Proofs.YtnddpppljnjmcaaGreatDoor
/- Law 5: signs, beginnings, runs of digits, noughts left off. -/
namespace Go.Proofs.YtnddpppljnjmcaaGreatDoor.V
open Go Go.Iv Go.Gv
set_option linter.unusedSimpArgs false
set_option linter.unusedVariables false
theorem take_all {α : Type} (l : List α) (k : Nat) : List.take (l.length - k) (List.drop k l) = List.drop k l := by
  rw [List.take_of_length_le]; rw [List.length_drop]; exact Nat.le_refl _
theorem roomle {n : Nat} (h : n ≤ 1000000) : room n = true := room_ok (Nat.le_trans h (by decide))
def pre : List UInt8 → List UInt8 → Bool
  | [], _ => true
  | _ :: _, [] => false
  | a :: r, b :: s => (b == a) && pre r s
theorem pre_len : ∀ (x s : List UInt8), pre x s = true → x.length ≤ s.length
  | [], _, _ => Nat.zero_le _
  | _ :: _, [], h => by cases h
  | a :: r, b :: s, h => by
    simp only [pre, Bool.and_eq_true] at h
    have := pre_len r s h.2
    simp only [List.length_cons]; omega
theorem pre_take : ∀ (x s : List UInt8), x.length ≤ s.length → (List.take x.length s == x) = pre x s
  | [], _, _ => rfl
  | _ :: _, [], h => by simp at h
  | a :: r, b :: s, h => by
    simp only [List.length_cons] at h
    have := pre_take r s (by omega)
    simp only [List.length_cons, List.take_succ_cons, pre, ← this]
    rfl
theorem pre_short : ∀ (x s : List UInt8), s.length < x.length → pre x s = false
  | [], _, h => by simp at h
  | _ :: _, [], h => rfl
  | a :: r, b :: s, h => by
    simp only [List.length_cons] at h
    simp only [pre, pre_short r s (by omega), Bool.and_false]
theorem hasPrefixL_spec (n : Nat) (s x : List UInt8) : hasPrefixL n s x = some (pre x s, ()) := by
  unfold hasPrefixL len
  by_cases h : x.length ≤ s.length
  · simp only [ile_t (show ((x.length : Nat) : Int) ≤ (s.length : Nat) by omega), cond_true, List.drop_zero, Nat.sub_zero, Int.toNat_natCast, pre_take x s h]
  · simp only [ile_f (show ((s.length : Nat) : Int) < (x.length : Nat) by omega), cond_false, pre_short x s (by omega)]
theorem hasPrefix_spec (n : Nat) (s x : List UInt8) : hasPrefix n s x = some (pre x s, ()) := by
  unfold hasPrefix; rw [hasPrefixL_spec]; rfl
theorem trimPrefix_spec (n : Nat) (s x : List UInt8) : trimPrefix n s x = some (bif pre x s then List.drop x.length s else s, ()) := by
  unfold trimPrefix len; rw [hasPrefixL_spec]
  cases h : pre x s with
  | false => rfl
  | true =>
    have := pre_len x s h
    simp only [Option.bind_some, cond_true, ile_t (show ((x.length : Nat) : Int) ≤ (s.length : Nat) by omega), Int.toNat_natCast, take_all]
theorem cutPrefix_spec (n : Nat) (s x : List UInt8) : cutPrefix n s x = some (bif pre x s then List.drop x.length s else s, pre x s, ()) := by
  unfold cutPrefix len; rw [hasPrefixL_spec]
  cases h : pre x s with
  | false => rfl
  | true =>
    have := pre_len x s h
    simp only [Option.bind_some, Bool.not_true, cond_false, cond_true, ile_t (show ((x.length : Nat) : Int) ≤ (s.length : Nat) by omega), Int.toNat_natCast, take_all]
def sgn : List UInt8 → List UInt8 × Bool
  | [] => ([], false)
  | c :: r => bif c == 45 then (r, true) else bif c == 43 then (r, false) else (c :: r, false)
theorem pre1 (a c : UInt8) (r : List UInt8) : pre [a] (c :: r) = (c == a) := by simp only [pre, Bool.and_true]
theorem signed_spec (n : Nat) (s : List UInt8) : signed n s = some ((sgn s).1, (sgn s).2, ()) := by
  unfold signed; rw [hasPrefix_spec, trimPrefix_spec]
  cases s with
  | nil => rfl
  | cons c r =>
    simp only [Option.bind_some, pre1, sgn, take_all, ile_t (show (1 : Int) ≤ len (c :: r) by simp only [len, List.length_cons]; omega)]
    cases c == 45 <;> cases c == 43 <;> rfl
theorem sgn_len (s : List UInt8) : (sgn s).1.length ≤ s.length := by
  cases s with
  | nil => exact Nat.le_refl _
  | cons c r =>
    simp only [sgn]
    cases c == 45 <;> cases c == 43 <;> simp
def dig (c : UInt8) : Bool := Nat.ble 48 c.toNat && Nat.ble c.toNat 57
def run (s : List UInt8) : List UInt8 := s.takeWhile dig
theorem run_len (s : List UInt8) : (run s).length ≤ s.length := (List.takeWhile_prefix dig).length_le
theorem count_loop (s : List UInt8) : ∀ (m i n : Nat), i + m = s.length → s.length ≤ 1000000 → m + 1 ≤ n → L97_2 n s (i : Int) = some ((((i + (run (s.drop i)).length : Nat) : Int), ()), ()) := by
  intro m
  induction m with
  | zero =>
    intro i n h hs hn
    obtain ⟨n, rfl⟩ : ∃ k, n = k + 1 := ⟨n - 1, by omega⟩
    simp only [L97_2, len, ilt_f (show ((s.length : Nat) : Int) ≤ (i : Int) by omega), cond_false, Option.bind_some, List.drop_eq_nil_of_le (show s.length ≤ i by omega)]
    rfl
  | succ m ih =>
    intro i n h hs hn
    obtain ⟨n, rfl⟩ : ∃ k, n = k + 1 := ⟨n - 1, by omega⟩
    have hi : i < s.length := by omega
    have w : IntKind.wrap .i64 ((i : Int) + 1) = ((i + 1 : Nat) : Int) := by rw [wrap_id] <;> omega
    have z : Go.Iv.ile (0 : Int) (i : Int) = true := ile_t (by omega)
    rw [List.drop_eq_getElem_cons hi]
    simp only [L97_2, len, ilt_t (show (i : Int) < ((s.length : Nat) : Int) by omega), z, cond_true, Int.toNat_natCast, List.getElem?_eq_getElem hi, Option.bind_some, w]
    generalize hc : s[i] = c
    simp only [run, List.takeWhile, dig]
    have e1 : UInt8.toNat 48 = 48 := rfl
    have e2 : UInt8.toNat 57 = 57 := rfl
    rw [e1, e2]
    cases h1 : Nat.ble 48 c.toNat with
    | false => simp only [cond_false, Option.bind_some, Bool.false_and]; rfl
    | true =>
      simp only [cond_true, Option.bind_some, Bool.true_and]
      cases h2 : Nat.ble c.toNat 57 with
      | false => simp only [cond_false]; rfl
      | true =>
        simp only [cond_true]
        rw [ih (i + 1) n (by omega) hs (by omega)]
        simp only [run, List.length_cons]
        congr 4; omega
theorem count_spec (n : Nat) (s : List UInt8) (hs : s.length ≤ 1000000) (hn : s.length ≤ n) : count n s = some (((run s).length : Int), ()) := by
  unfold count
  have := count_loop s s.length 0 (n + 1) (by omega) hs (by omega)
  rw [show (0 : Int) = ((0 : Nat) : Int) from rfl, this, List.drop_zero, Nat.zero_add]
  rfl
theorem run_take (s : List UInt8) : s.take (run s).length = run s := by
  have h := (List.takeWhile_prefix dig (l := s))
  exact (List.prefix_iff_eq_take.1 h).symm
theorem tlb (n : Nat) (c : UInt8) : ∀ (s : List UInt8) (n : Nat), s.length + 1 ≤ n → L112_1 n s c = some ((s.dropWhile (· == c), ()), ())
  | [], n, h => by
    obtain ⟨n, rfl⟩ : ∃ k, n = k + 1 := ⟨n - 1, by omega⟩
    rfl
  | x :: r, n, h => by
    obtain ⟨n, rfl⟩ : ∃ k, n = k + 1 := ⟨n - 1, by omega⟩
    simp only [List.length_cons] at h
    simp only [L112_1, len, ilt_t (show (0 : Int) < (((x :: r).length : Nat) : Int) by simp only [List.length_cons]; omega), ile_t (show (1 : Int) ≤ (((x :: r).length : Nat) : Int) by simp only [List.length_cons]; omega),
      cond_true, List.getElem?_cons_zero, Option.bind_some, take_all, List.dropWhile]
    cases x == c with
    | false => rfl
    | true => exact tlb n c r n (by omega)
theorem trimLeftByte_spec (n : Nat) (s : List UInt8) (c : UInt8) (hn : s.length ≤ n) : trimLeftByte n s c = some (s.dropWhile (· == c), ()) := by
  unfold trimLeftByte; rw [tlb 0 c s (n + 1) (by omega)]; rfl
def trimR (s : List UInt8) : List UInt8 := (s.reverse.dropWhile (· == 48)).reverse
theorem trimR_concat (s : List UInt8) (x : UInt8) : trimR (s ++ [x]) = bif x == 48 then trimR s else s ++ [x] := by
  unfold trimR
  rw [List.reverse_append]
  simp only [List.reverse_cons, List.reverse_nil, List.nil_append, List.singleton_append, List.dropWhile]
  cases x == 48 with
  | false => simp
  | true => rfl
theorem trimR_len (s : List UInt8) : (trimR s).length ≤ s.length := by
  unfold trimR
  rw [List.length_reverse]
  have := (List.dropWhile_suffix (· == (48 : UInt8)) (l := s.reverse)).length_le
  rwa [List.length_reverse] at this
theorem last_cases {α : Type} (s : List α) : s = [] ∨ ∃ r x, s = r ++ [x] := by
  rcases List.eq_nil_or_concat s with h | ⟨r, x, h⟩
  · exact .inl h
  · exact .inr ⟨r, x, by rw [h, List.concat_eq_append]⟩
theorem trb : ∀ (m : Nat) (s : List UInt8) (n : Nat), s.length = m → s.length ≤ 1000000 → m + 1 ≤ n → L116_1 n s 48 = some ((trimR s, ()), ()) := by
  intro m
  induction m with
  | zero =>
    intro s n h _ hn
    obtain ⟨n, rfl⟩ : ∃ k, n = k + 1 := ⟨n - 1, by omega⟩
    cases s with
    | nil => rfl
    | cons => cases h
  | succ m ih =>
    intro s n h hs hn
    obtain ⟨n, rfl⟩ : ∃ k, n = k + 1 := ⟨n - 1, by omega⟩
    rcases last_cases s with rfl | ⟨r, x, rfl⟩
    · cases h
    have hl : (r ++ [x]).length = r.length + 1 := by simp
    rw [hl] at h hs
    have w : IntKind.wrap .i64 ((((r.length + 1 : Nat)) : Int) - 1) = (r.length : Int) := by rw [wrap_id] <;> omega
    have hg : (r ++ [x])[r.length]? = some x := by simp
    simp only [L116_1, len, hl, w, ilt_t (show (0 : Int) < ((r.length + 1 : Nat) : Int) by omega), ile_t (show (0 : Int) ≤ (r.length : Int) by omega), ile_t (show (r.length : Int) ≤ ((r.length + 1 : Nat) : Int) by omega), cond_true, Int.toNat_natCast, hg, Option.bind_some, Bool.and_self, Nat.sub_zero, List.drop_zero,
      trimR_concat, List.take_left]
    cases x == 48 with
    | false => rfl
    | true => exact ih r n (by omega) (by omega) (by omega)
theorem trimRightByte_spec (n : Nat) (s : List UInt8) (hs : s.length ≤ 1000000) (hn : s.length ≤ n) : trimRightByte n s 48 = some (trimR s, ()) := by
  unfold trimRightByte; rw [trb _ s (n + 1) rfl hs (by omega)]; rfl
end Go.Proofs.YtnddpppljnjmcaaGreatDoor.V
/- Law 5: numbers without noughts at their ends. -/
namespace Go.Proofs.YtnddpppljnjmcaaGreatDoor.V
open Go Go.Iv Go.Gv
set_option linter.unusedSimpArgs false
set_option linter.unusedVariables false
abbrev Num := Bool × (List UInt8 × (Int × Int))
def nought (b : Bool) : Num := (b, ([48], (0, 0)))
def tl (d : List UInt8) : List UInt8 := d.dropWhile (· == 48)
def norm (b : Bool) (d : List UInt8) (e : Int) : Num :=
  bif (trimR (tl d)).isEmpty then nought b else (b, (trimR (tl d), (e + (len (tl d) - len (trimR (tl d))), 0)))
theorem beq_nil (l : List UInt8) : (l == ([] : List UInt8)) = l.isEmpty := by cases l <;> rfl
theorem tl_len (d : List UInt8) : (tl d).length ≤ d.length := (List.dropWhile_suffix (· == (48 : UInt8)) (l := d)).length_le
theorem bindb {α : Type} (b : Bool) (f : Bool → Option α) : (Option.bind (bif b then some Bool.true else some Bool.false) f) = f b := by cases b <;> rfl
theorem whole_spec (n : Nat) (b : Bool) (d : List UInt8) (e : Int) (h1 : -1000000000000 ≤ e) (h2 : e ≤ 1000000000000) (hs : d.length ≤ 1000000) (hn : d.length ≤ n) :
    whole n b d e = some (norm b d e, ()) := by
  have l1 := tl_len d
  have l2 := trimR_len (tl d)
  unfold whole
  simp only [bindb, beq_nil]
  cases h : d.isEmpty with
  | true =>
    have : d = [] := by cases d with
      | nil => rfl
      | cons => cases h
    subst this
    rfl
  | false =>
    simp only [cond_false]
    rw [trimLeftByte_spec n d 48 hn]
    simp only [Option.bind_some]
    show (bif (tl d).isEmpty then _ else _) = _
    change (bif (tl d).isEmpty then (bif (tl d).isEmpty then some (nought b, ()) else some ((b, (tl d, (_, 0))), ())) else Option.bind (trimRightByte n (tl d) 48) _) = _
    cases h3 : (tl d).isEmpty with
    | true =>
      have : tl d = [] := by cases h4 : tl d with
        | nil => rfl
        | cons => rw [h4] at h3; cases h3
      simp only [cond_true]
      unfold norm
      rw [this]; rfl
    | false =>
      simp only [cond_false]
      rw [trimRightByte_spec n (tl d) (by omega) (by omega)]
      simp only [Option.bind_some]
      unfold norm
      have w1 : IntKind.wrap .i64 (e + len (tl d)) = e + len (tl d) := by unfold len; rw [wrap_id] <;> omega
      have w2 : IntKind.wrap .i64 (e + len (tl d) - len (trimR (tl d))) = e + (len (tl d) - len (trimR (tl d))) := by unfold len; rw [wrap_id] <;> omega
      have hd : List.dropWhile (fun x => x == 48) d = tl d := rfl
      rw [hd, w1, w2]
      cases (trimR (tl d)).isEmpty <;> rfl
def strip : List UInt8 → List UInt8
  | [] => []
  | [x] => [x]
  | x :: y :: r => bif x == 48 then strip (y :: r) else x :: y :: r
theorem strip_tl : ∀ (s : List UInt8), ((tl s).isEmpty = true → strip s = [] ∨ strip s = [48]) ∧ ((tl s).isEmpty = false → strip s = tl s)
  | [] => ⟨fun _ => .inl rfl, fun h => by cases h⟩
  | [x] => by
    unfold tl strip
    simp only [List.dropWhile]
    cases h : x == 48 with
    | false => exact ⟨fun h => (by cases h), fun _ => rfl⟩
    | true => exact ⟨fun _ => .inr (by rw [beq_iff_eq.1 h]), fun h => by cases h⟩
  | x :: y :: r => by
    have ih := strip_tl (y :: r)
    unfold tl at ih ⊢
    rw [List.dropWhile, strip]
    cases h : x == 48 with
    | false => exact ⟨fun h => (by cases h), fun _ => rfl⟩
    | true => exact ih
theorem tl_head (s : List UInt8) (x : UInt8) (r : List UInt8) (h : tl s = x :: r) : (x == 48) = false := by
  induction s with
  | nil => cases h
  | cons y s ih =>
    unfold tl at h ih
    rw [List.dropWhile] at h
    cases hy : y == 48 with
    | true => rw [hy] at h; exact ih h
    | false =>
      rw [hy] at h
      injection h with h1 h2
      rw [← h1]; exact hy
theorem trimR_cons (x : UInt8) (r : List UInt8) (h : (x == 48) = false) : (trimR (x :: r)).isEmpty = false := by
  unfold trimR
  rw [List.reverse_cons, List.dropWhile_append]
  cases h2 : (r.reverse.dropWhile (· == 48)).isEmpty with
  | true =>
    rw [if_pos rfl]
    simp only [List.dropWhile, h]
    rfl
  | false =>
    rw [if_neg (by decide)]
    simp
end Go.Proofs.YtnddpppljnjmcaaGreatDoor.V
/- Law 5: digits times a number. -/
namespace Go.Proofs.YtnddpppljnjmcaaGreatDoor.V
open Go Go.Iv Go.Gv
set_option linter.unusedSimpArgs false
set_option linter.unusedVariables false
def hv (c : UInt8) : Int := if 48 ≤ ub c ∧ ub c ≤ 57 then ub c - 48 else if 97 ≤ ub c ∧ ub c ≤ 102 then ub c - 87 else if 65 ≤ ub c ∧ ub c ≤ 70 then ub c - 55 else -1
theorem hex_spec (n : Nat) (c : UInt8) : hex n (IntKind.wrap .i64 (ub c)) = some (hv c, ()) := by
  have hb := ub_lt c
  rw [ub_wrap]
  unfold hex hv
  generalize ub c = x at *
  have e : (bif ile 48 x then some (ile x 57) else some false) = some (decide (48 ≤ x ∧ x ≤ 57)) := by
    rw [ile_eq, ile_eq]
    by_cases h1 : 48 ≤ x <;> by_cases h2 : x ≤ 57 <;> simp [h1, h2]
  have e2 : (bif ile 97 x then some (ile x 102) else some false) = some (decide (97 ≤ x ∧ x ≤ 102)) := by
    rw [ile_eq, ile_eq]
    by_cases h1 : 97 ≤ x <;> by_cases h2 : x ≤ 102 <;> simp [h1, h2]
  have e3 : (bif ile 65 x then some (ile x 70) else some false) = some (decide (65 ≤ x ∧ x ≤ 70)) := by
    rw [ile_eq, ile_eq]
    by_cases h1 : 65 ≤ x <;> by_cases h2 : x ≤ 70 <;> simp [h1, h2]
  rw [e, e2, e3]
  have w1 : IntKind.wrap .i64 (x - 48) = x - 48 := by rw [wrap_id] <;> omega
  have w2 : IntKind.wrap .i64 (IntKind.wrap .i64 (x - 97) + 10) = x - 87 := by rw [wrap_id (x := x - 97), wrap_id] <;> omega
  have w3 : IntKind.wrap .i64 (IntKind.wrap .i64 (x - 65) + 10) = x - 55 := by rw [wrap_id (x := x - 65), wrap_id] <;> omega
  rw [w1, w2, w3]
  by_cases h1 : 48 ≤ x ∧ x ≤ 57
  · rw [if_pos h1, decide_eq_true h1]; rfl
  by_cases h2 : 97 ≤ x ∧ x ≤ 102
  · rw [if_neg h1, decide_eq_false h1, if_pos h2, decide_eq_true h2]; rfl
  by_cases h3 : 65 ≤ x ∧ x ≤ 70
  · rw [if_neg h1, decide_eq_false h1, if_neg h2, decide_eq_false h2, if_pos h3, decide_eq_true h3]; rfl
  rw [if_neg h1, decide_eq_false h1, if_neg h2, decide_eq_false h2, if_neg h3, decide_eq_false h3]; rfl
theorem hexR_spec (n : Nat) (c : UInt8) : hexR n (IntKind.wrap .i64 (ub c)) = some (hv c, ()) := hex_spec n c
theorem hv_lt (c : UInt8) : -1 ≤ hv c ∧ hv c ≤ 15 := by
  unfold hv
  split
  · omega
  split
  · omega
  split <;> omega
theorem hv_dig (c : UInt8) : (0 ≤ hv c ∧ hv c < 10) ↔ dig c = true := by
  have e : dig c = true ↔ (48 ≤ ub c ∧ ub c ≤ 57) := by
    unfold dig ub
    rw [Bool.and_eq_true, Nat.ble_eq, Nat.ble_eq]; omega
  rw [e]
  unfold hv
  split
  · omega
  split
  · omega
  split <;> omega
theorem hv_ub (c : UInt8) (h : dig c = true) : hv c = ub c - 48 := by
  have e : (48 ≤ ub c ∧ ub c ≤ 57) := by
    unfold dig at h; unfold ub
    rw [Bool.and_eq_true, Nat.ble_eq, Nat.ble_eq] at h; omega
  unfold hv; rw [if_pos e]
def Dg (l : List Int) : Prop := ∀ x, x ∈ l → 0 ≤ x ∧ x ≤ 9
theorem Dg.nil : Dg [] := fun x h => by cases h
theorem Dg.head {x : Int} {r : List Int} (h : Dg (x :: r)) : 0 ≤ x ∧ x ≤ 9 := h x (.head _)
theorem Dg.tail {x : Int} {r : List Int} (h : Dg (x :: r)) : Dg r := fun y hy => h y (.tail _ hy)
theorem Dg.cons {x : Int} {r : List Int} (h1 : 0 ≤ x ∧ x ≤ 9) (h : Dg r) : Dg (x :: r) := fun y hy => by
  cases hy with
  | head => exact h1
  | tail _ hy => exact h y hy
theorem Dg.app {a b : List Int} (h1 : Dg a) (h2 : Dg b) : Dg (a ++ b) := fun y hy => by
  rcases List.mem_append.1 hy with h | h
  · exact h1 y h
  · exact h2 y h
theorem Dg.drop {a : List Int} (h : Dg a) (i : Nat) : Dg (a.drop i) := fun y hy => h y (List.mem_of_mem_drop hy)
def mulA (k : Int) : List Int → Int → List Int × Int
  | [], m => ([], m)
  | x :: r, m => (((m + x * k) % 10) :: (mulA k r ((m + x * k) / 10)).1, (mulA k r ((m + x * k) / 10)).2)
def carry (m : Int) : List Int := if m = 0 then [] else if m < 10 then [m % 10] else [m % 10, m / 10 % 10]
def mul (k : Int) (l : List Int) (m : Int) : List Int := (mulA k l m).1 ++ carry (mulA k l m).2
theorem prod_le {x k : Int} (h1 : 0 ≤ x ∧ x ≤ 9) (h2 : 0 ≤ k ∧ k ≤ 16) : 0 ≤ x * k ∧ x * k ≤ 144 := by
  refine ⟨Int.mul_nonneg h1.1 h2.1, ?_⟩
  have := Int.mul_le_mul h1.2 h2.2 h2.1 (by omega)
  omega
theorem mulA_ok (k : Int) (hk : 0 ≤ k ∧ k ≤ 16) : ∀ (l : List Int) (m : Int), Dg l → 0 ≤ m ∧ m ≤ 15 → Dg (mulA k l m).1 ∧ (0 ≤ (mulA k l m).2 ∧ (mulA k l m).2 ≤ 15) ∧ (mulA k l m).1.length = l.length
  | [], m, _, hm => ⟨Dg.nil, hm, rfl⟩
  | x :: r, m, hl, hm => by
    have hp := prod_le hl.head hk
    obtain ⟨i1, i2, i3⟩ := mulA_ok k hk r ((m + x * k) / 10) hl.tail (by omega)
    exact ⟨Dg.cons (by omega) i1, i2, by simp only [mulA, List.length_cons, i3]⟩
theorem carry_ok (m : Int) (hm : 0 ≤ m ∧ m ≤ 15) : Dg (carry m) ∧ (carry m).length ≤ 2 := by
  unfold carry
  split
  · exact ⟨Dg.nil, by simp⟩
  split
  · exact ⟨Dg.cons (by omega) Dg.nil, by simp⟩
  · exact ⟨Dg.cons (by omega) (Dg.cons (by omega) Dg.nil), by simp⟩
theorem mul_ok (k : Int) (hk : 0 ≤ k ∧ k ≤ 16) (l : List Int) (m : Int) (hl : Dg l) (hm : 0 ≤ m ∧ m ≤ 15) : Dg (mul k l m) ∧ (mul k l m).length ≤ l.length + 2 := by
  obtain ⟨i1, i2, i3⟩ := mulA_ok k hk l m hl hm
  obtain ⟨c1, c2⟩ := carry_ok _ i2
  refine ⟨i1.app c1, ?_⟩
  unfold mul
  rw [List.length_append]; omega
theorem carryP (k : Int) (l : List Int) (m : Int) (hm : 0 ≤ m ∧ m ≤ 15) (hs : l.length ≤ 90000) (acc : List Int) (ha : acc.length ≤ 100000) (i : Nat) (hi : l.length ≤ i) (hi2 : i ≤ 100000) (n : Nat) (hn : 3 ≤ n) :
    L91_3 n l k m acc (i : Int) = some ((acc ++ carry m, ()), ()) := by
  have st : ∀ (m : Int) (acc : List Int) (i n : Nat), 0 < m → m ≤ 15 → acc.length ≤ 100005 → l.length ≤ i → i ≤ 100005 → L91_3 (n + 1) l k m acc (i : Int) = L91_3 n l k (m / 10) (acc ++ [m % 10]) ((i + 1 : Nat) : Int) := fun m acc i n h1 h2 ha hi hi2 => by
    have w : IntKind.wrap .i64 ((i : Int) + 1) = ((i + 1 : Nat) : Int) := by rw [wrap_id] <;> omega
    have w0 : IntKind.wrap .i64 (m + IntKind.wrap .i64 (0 * k)) = m := by rw [Int.zero_mul, wrap_id (x := 0), wrap_id] <;> omega
    have w1 : IntKind.wrap .i64 (Int.tdiv m 10) = m / 10 := by rw [Int.tdiv_eq_ediv_of_nonneg (by omega), wrap_id] <;> omega
    simp only [L91_3, len, ilt_f (show ((l.length : Nat) : Int) ≤ (i : Int) by omega), ilt_t h1, cond_true, cond_false, Option.bind_some, w0, List.length_singleton, List.length_cons, List.length_nil, roomle (show (acc.length + (0 + 1)) * 9 ≤ 1000000 by omega), w, w1, Int.tmod_eq_emod_of_nonneg (show 0 ≤ m by omega)]
  have fin : ∀ (acc : List Int) (i n : Nat), l.length ≤ i → L91_3 (n + 1) l k 0 acc (i : Int) = some ((acc, ()), ()) := fun acc i n hi => by
    simp only [L91_3, len, ilt_f (show ((l.length : Nat) : Int) ≤ (i : Int) by omega), ilt_f (Int.le_refl 0), cond_false, Option.bind_some]
  obtain ⟨n, rfl⟩ : ∃ k, n = k + 3 := ⟨n - 3, by omega⟩
  unfold carry
  by_cases h0 : m = 0
  · subst h0
    rw [if_pos rfl, fin _ _ _ hi, List.append_nil]
  rw [if_neg h0, st m acc i (n + 2) (by omega) (by omega) (by omega) hi (by omega)]
  by_cases h1 : m < 10
  · rw [if_pos h1, show m / 10 = 0 by omega, fin _ _ _ (by omega)]
  · rw [if_neg h1, st (m / 10) _ (i + 1) (n + 1) (by omega) (by omega) (by simp; omega) (by omega) (by omega), show m / 10 / 10 = 0 by omega, fin _ _ _ (by omega), List.append_assoc]
    rfl
theorem mulP_loop (k : Int) (hk : 0 ≤ k ∧ k ≤ 16) (l : List Int) (hl : Dg l) (hs : l.length ≤ 90000) : ∀ (d i n : Nat) (m : Int) (acc : List Int), i + d = l.length → acc.length = i → 0 ≤ m ∧ m ≤ 15 → d + 3 ≤ n →
    L91_3 n l k m acc (i : Int) = some ((acc ++ ((mulA k (l.drop i) m).1 ++ carry (mulA k (l.drop i) m).2), ()), ()) := by
  intro d
  induction d with
  | zero =>
    intro i n m acc h ha hm hn
    rw [List.drop_eq_nil_of_le (show l.length ≤ i by omega)]
    exact carryP k l m hm hs acc (by omega) i (by omega) (by omega) n (by omega)
  | succ d ih =>
    intro i n m acc h ha hm hn
    obtain ⟨n, rfl⟩ : ∃ k, n = k + 1 := ⟨n - 1, by omega⟩
    have hi : i < l.length := by omega
    have w : IntKind.wrap .i64 ((i : Int) + 1) = ((i + 1 : Nat) : Int) := by rw [wrap_id] <;> omega
    have hp := prod_le (hl _ (List.getElem_mem hi)) hk
    have w1 : IntKind.wrap .i64 (l[i] * k) = l[i] * k := by rw [wrap_id] <;> omega
    have w2 : IntKind.wrap .i64 (m + l[i] * k) = m + l[i] * k := by rw [wrap_id] <;> omega
    have w3 : IntKind.wrap .i64 ((m + l[i] * k) / 10) = (m + l[i] * k) / 10 := by rw [wrap_id] <;> omega
    have q0 : 0 ≤ m + l[i] * k := by omega
    rw [List.drop_eq_getElem_cons hi]
    simp only [L91_3, len, ilt_t (show (i : Int) < ((l.length : Nat) : Int) by omega), ile_t (show (0 : Int) ≤ (i : Int) by omega), cond_true, Int.toNat_natCast, List.getElem?_eq_getElem hi, Option.bind_some, w, w1, w2,
      Int.tdiv_eq_ediv_of_nonneg q0, Int.tmod_eq_emod_of_nonneg q0, w3, List.length_singleton, List.length_cons, List.length_nil, roomle (show (acc.length + (0 + 1)) * 9 ≤ 1000000 by omega), mulA]
    rw [ih (i + 1) n _ _ (by omega) (by simp; omega) (by omega) (by omega), List.append_assoc]
    rfl
theorem times_spec (n : Nat) (l : List Int) (k m : Int) (hk : 0 ≤ k ∧ k ≤ 16) (hl : Dg l) (hm : 0 ≤ m ∧ m ≤ 15) (hs : l.length ≤ 90000) (hn : l.length + 3 ≤ n) :
    times n l k m = some (mul k l m, ()) := by
  unfold times
  have := mulP_loop k hk l hl hs l.length 0 n m [] (by omega) rfl hm (by omega)
  rw [List.drop_zero, List.nil_append] at this
  rw [show (0 : Int) = ((0 : Nat) : Int) from rfl, this]
  rfl
end Go.Proofs.YtnddpppljnjmcaaGreatDoor.V
/- Law 5: digits as a text. -/
namespace Go.Proofs.YtnddpppljnjmcaaGreatDoor.V
open Go Go.Iv Go.Gv
set_option linter.unusedSimpArgs false
set_option linter.unusedVariables false
def ch (x : Int) : UInt8 := UInt8.ofNat (Int.toNat (IntKind.wrap .u8 (IntKind.wrap .i64 (48 + x))))
theorem ch_dig (x : Int) (h : 0 ≤ x ∧ x ≤ 9) : (ch x == 48) = (x == 0) := by
  have : x = 0 ∨ x = 1 ∨ x = 2 ∨ x = 3 ∨ x = 4 ∨ x = 5 ∨ x = 6 ∨ x = 7 ∨ x = 8 ∨ x = 9 := by omega
  rcases this with rfl | rfl | rfl | rfl | rfl | rfl | rfl | rfl | rfl | rfl <;> decide
theorem ch_zero : ch 0 = 48 := by decide
theorem rev_take {α : Type} (l : List α) (i : Nat) (h : i < l.length) : (l.take (i + 1)).reverse = l[i] :: (l.take i).reverse := by
  rw [List.take_succ_eq_append_getElem h, List.reverse_append]; rfl
def tx (l : List Int) : List UInt8 := bif (tl (l.reverse.map ch)).isEmpty then [48] else tl (l.reverse.map ch)
theorem text_loop (l : List Int) (hs : l.length ≤ 100000) : ∀ (i n : Nat) (acc : List UInt8), i ≤ l.length → acc.length + i ≤ 100000 → i + 1 ≤ n →
    L93_3 n l ((i : Int) - 1) acc = some (((), ()), (((), (acc ++ (l.take i).reverse.map ch, ())), ())) := by
  intro i
  induction i with
  | zero =>
    intro n acc h ha hn
    obtain ⟨n, rfl⟩ : ∃ k, n = k + 1 := ⟨n - 1, by omega⟩
    simp only [L93_3, ile_f (show ((0 : Nat) : Int) - 1 < 0 by omega), cond_false, List.take_zero, List.reverse_nil, List.map_nil, List.append_nil]
  | succ i ih =>
    intro n acc h ha hn
    obtain ⟨n, rfl⟩ : ∃ k, n = k + 1 := ⟨n - 1, by omega⟩
    have e : ((i + 1 : Nat) : Int) - 1 = (i : Int) := by omega
    have w : IntKind.wrap .i64 ((i : Int) - 1) = (i : Int) - 1 := by rw [wrap_id] <;> omega
    rw [e, rev_take l i (by omega)]
    simp only [L93_3, ile_t (show (0 : Int) ≤ (i : Int) by omega), cond_true, Int.toNat_natCast, List.getElem?_eq_getElem (show i < l.length by omega), Option.bind_some, w, List.length_singleton, List.length_cons, List.length_nil, roomle (show (acc.length + (0 + 1)) * 2 ≤ 1000000 by omega)]
    rw [ih n _ (by omega) (by simp; omega) (by omega), List.map_cons, List.append_assoc]
    rfl
theorem isEmpty_eq {α : Type} {l : List α} (h : l.isEmpty = true) : l = [] := by
  cases l with
  | nil => rfl
  | cons => cases h
theorem text_spec (n : Nat) (l : List Int) (hs : l.length ≤ 90000) (hn : l.length + 1 ≤ n) : text n l = some (tx l, ()) := by
  unfold text
  rcases last_cases l with rfl | ⟨r, x, rfl⟩
  · rfl
  have hl : (r ++ [x]).length = r.length + 1 := by simp
  have hg : (r ++ [x])[r.length]? = some x := by simp
  rw [hl] at hs hn
  have w : IntKind.wrap .i64 (((r.length + 1 : Nat) : Int) - 1) = (r.length : Int) := by rw [wrap_id] <;> omega
  have w2 : IntKind.wrap .i64 ((r.length : Int) - 1) = (r.length : Int) - 1 := by rw [wrap_id] <;> omega
  simp only [len, hl, w, w2, ile_t (show (0 : Int) ≤ (r.length : Int) by omega), cond_true, Int.toNat_natCast, hg, Option.bind_some]
  rw [text_loop (r ++ [x]) (by omega) r.length n _ (by omega) (by simp; omega) (by omega)]
  have e : List.take r.length (r ++ [x]) = r := by simp
  rw [e]
  have e2 : (UInt8.ofNat (Int.toNat (IntKind.wrap IntKind.u8 (IntKind.wrap IntKind.i64 ((48 : Int) + x))))) :: ([] : List UInt8) ++ (r.reverse.map ch) = ((r ++ [x]).reverse).map ch := by
    rw [List.reverse_append]; rfl
  rw [e2]
  unfold tx
  have hlen : (((r ++ [x]).reverse).map ch).length = r.length + 1 := by simp
  generalize ((r ++ [x]).reverse).map ch = c at *
  have hc : c.isEmpty = false := by
    cases c with
    | nil => simp at hlen
    | cons => rfl
  have hc2 : List.take c.length c = c := List.take_length
  have hb : (c == ([] : List UInt8)) = false := by rw [beq_nil]; exact hc
  simp only [Option.bind_some, hc, cond_false, ile_t (Int.le_refl _), ile_t (show ((c.length : Nat) : Int) ≤ 1099511627776 by omega), Bool.and_self, cond_true, Int.toNat_natCast, hc2, hb]
  rw [trimLeftByte_spec n c 48 (by omega)]
  simp only [Option.bind_some]
  show (bif !(tl c == ([] : List UInt8)) then some (tl c, ()) else some ([48], ())) = some (bif (tl c).isEmpty then [48] else tl c, ())
  rw [beq_nil]
  cases (tl c).isEmpty <;> rfl
def stripI : List Int → List Int
  | [] => []
  | [x] => [x]
  | x :: y :: r => bif x == 0 then stripI (y :: r) else x :: y :: r
theorem stripI_suf : ∀ (r : List Int), ∃ p, r = p ++ stripI r
  | [] => ⟨[], rfl⟩
  | [x] => ⟨[], rfl⟩
  | x :: y :: r => by
    rw [stripI]
    cases x == 0 with
    | false => exact ⟨[], rfl⟩
    | true =>
      obtain ⟨p, hp⟩ := stripI_suf (y :: r)
      exact ⟨x :: p, congrArg (x :: ·) hp⟩
theorem stripI_ch : ∀ (r : List Int), Dg r → r ≠ [] → (stripI r).map ch = bif (tl (r.map ch)).isEmpty then [48] else tl (r.map ch)
  | [], _, h => absurd rfl h
  | [x], hd, _ => by
    unfold tl
    simp only [stripI, List.map_cons, List.map_nil, List.dropWhile, ch_dig x hd.head]
    cases h : x == 0 with
    | false => rfl
    | true => rw [beq_iff_eq.1 h, ch_zero]; rfl
  | x :: y :: r, hd, _ => by
    have ih := stripI_ch (y :: r) hd.tail (by simp)
    unfold tl at ih ⊢
    rw [stripI, List.map_cons, List.dropWhile, ch_dig x hd.head]
    cases x == 0 with
    | false => rfl
    | true => exact ih
theorem set_rep {α : Type} (a v : α) (X : List α) : ∀ (j : Nat), List.set (List.replicate (j + 1) a ++ X) j v = List.replicate j a ++ v :: X
  | 0 => rfl
  | j + 1 => by
    rw [List.replicate_succ, List.cons_append, List.set_cons_succ, set_rep a v X j, List.replicate_succ, List.cons_append]
end Go.Proofs.YtnddpppljnjmcaaGreatDoor.V
/- Law 5: plain digits in a base. -/
namespace Go.Proofs.YtnddpppljnjmcaaGreatDoor.V
open Go Go.Iv Go.Gv
set_option linter.unusedSimpArgs false
set_option linter.unusedVariables false
def okd (base : Int) (c : UInt8) : Bool := decide (0 ≤ hv c ∧ hv c < base)
theorem okd_if (base : Int) (c : UInt8) : (bif ilt (hv c) 0 then some true else some (ile base (hv c))) = some (!okd base c) := by
  unfold okd
  by_cases h1 : hv c < 0
  · rw [ilt_t h1, decide_eq_false (by omega)]; rfl
  · rw [ilt_f (by omega), cond_false]
    by_cases h2 : base ≤ hv c
    · rw [ile_t h2, decide_eq_false (by omega)]; rfl
    · rw [ile_f (by omega), decide_eq_true (by omega)]; rfl
theorem okd_le {base : Int} (hb : base ≤ 16) {c : UInt8} (h : okd base c = true) : 0 ≤ hv c ∧ hv c ≤ 15 := by
  have := of_decide_eq_true h; omega
theorem okd_dig (c : UInt8) : okd 10 c = dig c := by
  have h := hv_dig c
  unfold okd
  cases hd : dig c with
  | true => exact decide_eq_true (h.2 hd)
  | false =>
    apply decide_eq_false
    intro h2
    have := h.1 h2
    rw [hd] at this; cases this
def fold (k : Int) : List Int → List UInt8 → List Int
  | l, [] => l
  | l, c :: r => fold k (mul k l (hv c)) r
def allD (base : Int) : List UInt8 → Bool
  | [] => true
  | c :: r => okd base c && allD base r
theorem allD_mem {base : Int} : ∀ {s : List UInt8}, allD base s = true → ∀ c, c ∈ s → okd base c = true
  | [], _, c, h => by cases h
  | x :: r, h, c, hc => by
    simp only [allD, Bool.and_eq_true] at h
    cases hc with
    | head => exact h.1
    | tail _ hc => exact allD_mem h.2 c hc
theorem fold_ok (k : Int) (hk : 0 ≤ k ∧ k ≤ 16) : ∀ (s : List UInt8) (l : List Int), Dg l → allD k s = true → Dg (fold k l s) ∧ (fold k l s).length ≤ l.length + 2 * s.length
  | [], l, hl, _ => ⟨hl, by simp [fold]⟩
  | c :: r, l, hl, h => by
    simp only [allD, Bool.and_eq_true] at h
    obtain ⟨m1, m2⟩ := mul_ok k hk l (hv c) hl (okd_le hk.2 h.1)
    obtain ⟨f1, f2⟩ := fold_ok k hk r _ m1 h.2
    exact ⟨f1, by simp only [fold, List.length_cons]; omega⟩
theorem pl10 (s b : List UInt8) (l : List Int) (hs : b.length ≤ 100000) : ∀ (d i n : Nat), i + d = b.length → d + 1 ≤ n →
    L72_5 n s 10 l b (len b) (i : Int) = some (bif allD 10 (b.drop i) then .inl ((s, (10, (l, ()))), ()) else .inr (([], (false, ())), ())) := by
  intro d
  induction d with
  | zero =>
    intro i n h hn
    obtain ⟨n, rfl⟩ : ∃ k, n = k + 1 := ⟨n - 1, by omega⟩
    simp only [L72_5, len, ilt_f (show ((b.length : Nat) : Int) ≤ (i : Int) by omega), cond_false, List.drop_eq_nil_of_le (show b.length ≤ i by omega)]
    rfl
  | succ d ih =>
    intro i n h hn
    obtain ⟨n, rfl⟩ : ∃ k, n = k + 1 := ⟨n - 1, by omega⟩
    have hi : i < b.length := by omega
    have w : IntKind.wrap .i64 ((i : Int) + 1) = ((i + 1 : Nat) : Int) := by rw [wrap_id] <;> omega
    have e10 : ((10 : Int) != 10) = false := by decide
    have ih := ih (i + 1) n (by omega) (by omega)
    rw [List.drop_eq_getElem_cons hi]
    unfold len at ih ⊢
    simp only [L72_5, ilt_t (show (i : Int) < ((b.length : Nat) : Int) by omega), ile_t (show (0 : Int) ≤ (i : Int) by omega), cond_true, Int.toNat_natCast, List.getElem?_eq_getElem hi, Option.bind_some, w, hex_spec, okd_if, e10, cond_false, allD, ih]
    cases okd 10 b[i] <;> rfl
theorem plB (k : Int) (hk : 0 ≤ k ∧ k ≤ 16) (hk2 : (k != 10) = true) (s b : List UInt8) (hs : b.length ≤ 27000) : ∀ (d i n : Nat) (l : List Int), i + d = b.length → Dg l → l.length + 2 * d ≤ 40000 → 3 * d + l.length + 4 ≤ n →
    L72_5 n s k l b (len b) (i : Int) = some (bif allD k (b.drop i) then .inl ((s, (k, (fold k l (b.drop i), ()))), ()) else .inr (([], (false, ())), ())) := by
  intro d
  induction d with
  | zero =>
    intro i n l h hl hb hn
    obtain ⟨n, rfl⟩ : ∃ k, n = k + 1 := ⟨n - 1, by omega⟩
    simp only [L72_5, len, ilt_f (show ((b.length : Nat) : Int) ≤ (i : Int) by omega), cond_false, List.drop_eq_nil_of_le (show b.length ≤ i by omega)]
    rfl
  | succ d ih =>
    intro i n l h hl hb hn
    obtain ⟨n, rfl⟩ : ∃ k, n = k + 1 := ⟨n - 1, by omega⟩
    have hi : i < b.length := by omega
    have w : IntKind.wrap .i64 ((i : Int) + 1) = ((i + 1 : Nat) : Int) := by rw [wrap_id] <;> omega
    have ih := ih (i + 1) n
    rw [List.drop_eq_getElem_cons hi]
    unfold len at ih ⊢
    simp only [L72_5, ilt_t (show (i : Int) < ((b.length : Nat) : Int) by omega), ile_t (show (0 : Int) ≤ (i : Int) by omega), cond_true, Int.toNat_natCast, List.getElem?_eq_getElem hi, Option.bind_some, w, hex_spec, okd_if, hk2, allD]
    cases ho : okd k b[i] with
    | false => rfl
    | true =>
      have hm := okd_le hk.2 ho
      obtain ⟨m1, m2⟩ := mul_ok k hk l (hv b[i]) hl hm
      simp only [Bool.not_true, cond_false]
      rw [times_spec (n + 1) l k (hv b[i]) hk hl hm (by omega) (by omega)]
      simp only [Option.bind_some]
      rw [ih (mul k l (hv b[i])) (by omega) m1 (by omega) (by omega)]
      rfl
theorem of_loop (s : List UInt8) (hs : s.length ≤ 100000) (ha : allD 10 s = true) : ∀ (i n : Nat) (acc : List Int), i ≤ s.length → acc.length + i ≤ 100000 → i + 1 ≤ n →
    L92_5 n s acc ((i : Int) - 1) = some (.inl ((acc ++ (s.take i).reverse.map hv, ()), ())) := by
  intro i
  induction i with
  | zero =>
    intro n acc h hl hn
    obtain ⟨n, rfl⟩ : ∃ k, n = k + 1 := ⟨n - 1, by omega⟩
    simp only [L92_5, ile_f (show ((0 : Nat) : Int) - 1 < 0 by omega), cond_false, List.take_zero, List.reverse_nil, List.map_nil, List.append_nil]
  | succ i ih =>
    intro n acc h hl hn
    obtain ⟨n, rfl⟩ : ∃ k, n = k + 1 := ⟨n - 1, by omega⟩
    have hi : i < s.length := by omega
    have e : ((i + 1 : Nat) : Int) - 1 = (i : Int) := by omega
    have w : IntKind.wrap .i64 ((i : Int) - 1) = (i : Int) - 1 := by rw [wrap_id] <;> omega
    have hd := allD_mem ha s[i] (List.getElem_mem hi)
    have hu := hv_ub s[i] (by rw [← okd_dig]; exact hd)
    have hb := ub_lt s[i]
    have w2 : IntKind.wrap .i64 (IntKind.wrap .i64 (ub s[i]) - 48) = hv s[i] := by rw [ub_wrap, hu, wrap_id] <;> omega
    rw [e, rev_take s i hi]
    simp only [L92_5, ile_t (show (0 : Int) ≤ (i : Int) by omega), cond_true, Int.toNat_natCast, List.getElem?_eq_getElem hi, Option.bind_some, w, w2, okd_if, hd, Bool.not_true, cond_false, List.length_singleton, List.length_cons, List.length_nil, roomle (show (acc.length + (0 + 1)) * 9 ≤ 1000000 by omega)]
    rw [ih n _ (by omega) (by simp; omega) (by omega), List.map_cons, List.append_assoc]
    rfl
theorem of_spec (n : Nat) (s : List UInt8) (hs : s.length ≤ 5000) (ha : allD 10 s = true) (hn : s.length ≤ n) : of n s = some (s.reverse.map hv, ()) := by
  unfold of len
  have w : IntKind.wrap .i64 ((s.length : Int) - 1) = (s.length : Int) - 1 := by rw [wrap_id] <;> omega
  rw [ilt_f (show ((s.length : Nat) : Int) ≤ 5000 by omega), w, of_loop s (by omega) ha s.length (n + 1) [] (Nat.le_refl _) (by simp; omega) (by omega), List.take_length]
  rfl
theorem map_dg (s : List UInt8) (ha : allD 10 s = true) : Dg (s.reverse.map hv) := fun x hx => by
  obtain ⟨c, hc, rfl⟩ := List.mem_map.1 hx
  have := of_decide_eq_true (allD_mem ha c (List.mem_reverse.1 hc))
  omega
def pl (base : Int) (s : List UInt8) : List UInt8 × (Bool × Unit) :=
  bif s.isEmpty || (ilt 5000 (len s) || !allD base s) then ([], (false, ())) else (tx (bif base == 10 then s.reverse.map hv else fold base [] s), (true, ()))
theorem bad (s : List UInt8) (base : Int) (hb : base = 8 ∨ base = 10 ∨ base = 16) : (bif (s == ([] : List UInt8)) then
      some Bool.true
    else
    bif (Go.Iv.ilt (5000 : Int) (len s)) then
      some Bool.true
    else
    bif (base != (8 : Int)) then
      bif (base != (10 : Int)) then
        some (base != (16 : Int))
      else
      some Bool.false
    else
    some Bool.false) = some (s.isEmpty || ilt 5000 (len s)) := by
  rw [beq_nil]
  rcases hb with rfl | rfl | rfl <;> cases s.isEmpty <;> cases ilt 5000 (len s) <;> rfl
theorem plain_spec (n : Nat) (s : List UInt8) (base : Int) (hb : base = 8 ∨ base = 10 ∨ base = 16) (hn : 27000 ≤ n) : plain n s base = some (pl base s) := by
  have hk : 0 ≤ base ∧ base ≤ 16 := by omega
  unfold plain pl
  rw [bad s base hb]
  cases he : s.isEmpty with
  | true => rfl
  | false =>
    by_cases hl : s.length ≤ 5000
    · rw [ilt_f (show len s ≤ 5000 by unfold len; omega)]
      simp only [Bool.false_or, Option.bind_some, cond_false]
      by_cases h10 : base = 10
      · subst h10
        have := pl10 s s [] (by omega) s.length 0 (n + 2) (by omega) (by omega)
        rw [List.drop_zero] at this
        rw [show (0 : Int) = ((0 : Nat) : Int) from rfl, this]
        cases ha : allD 10 s with
        | false => rfl
        | true =>
          have e10 : ((10 : Int) == 10) = true := by decide
          simp only [Option.bind_some, cond_true, Bool.not_true, cond_false, e10]
          rw [of_spec (n + 2) s hl ha (by omega)]
          simp only [Option.bind_some]
          rw [text_spec n _ (by simp; omega) (by simp; omega)]
          rfl
      · have e10 : (base == 10) = false := beq_eq_false_iff_ne.2 h10
        have := plB base hk (by rw [bne, e10]; rfl) s s (by omega) s.length 0 (n + 2) [] (by omega) Dg.nil (by simp; omega) (by simp; omega)
        rw [List.drop_zero] at this
        rw [show (0 : Int) = ((0 : Nat) : Int) from rfl, this]
        cases ha : allD base s with
        | false => rfl
        | true =>
          obtain ⟨f1, f2⟩ := fold_ok base hk s [] Dg.nil ha
          rw [List.length_nil] at f2
          simp only [Option.bind_some, cond_true, Bool.not_true, cond_false, e10]
          rw [text_spec n _ (by omega) (by omega)]
          rfl
    · rw [ilt_t (show 5000 < len s by unfold len; omega)]
      rfl
def un (l : List Int) : List Int := bif l.isEmpty then [0] else l
theorem un_dg {l : List Int} (h : Dg l) : Dg (un l) := by
  unfold un
  cases l.isEmpty with
  | true => exact Dg.cons (by omega) Dg.nil
  | false => exact h
theorem un_len (l : List Int) : (un l).length ≤ l.length + 1 := by
  unfold un
  cases l.isEmpty <;> simp
theorem un_mul (k : Int) (l : List Int) (m : Int) (hm : 0 ≤ m ∧ m ≤ 15) : (bif (mul k (un l) m).isEmpty then [0] else mul k (un l) m) = un (mul k l m) := by
  cases l with
  | cons x r => rfl
  | nil =>
    show (bif (mul k [0] m).isEmpty then [0] else mul k [0] m) = un (mul k [] m)
    have e1 : mul k [0] m = (m % 10) :: carry (m / 10) := by
      unfold mul; simp only [mulA, Int.zero_mul, Int.add_zero]; rfl
    have e2 : mul k [] m = carry m := rfl
    rw [e1, e2]
    show (m % 10) :: carry (m / 10) = un (carry m)
    unfold carry
    by_cases h0 : m = 0
    · subst h0; rfl
    by_cases h1 : m < 10
    · rw [if_neg h0, if_pos h1, if_pos (show m / 10 = 0 by omega)]; rfl
    · rw [if_neg h0, if_neg h1, if_neg (show ¬ m / 10 = 0 by omega), if_pos (show m / 10 < 10 by omega)]; rfl
theorem tx_un (l : List Int) : tx (un l) = tx l := by
  cases l with
  | nil => decide
  | cons x r => rfl
theorem un_ne (l : List Int) : un l ≠ [] := by
  cases l with
  | nil => simp [un]
  | cons => simp [un]
end Go.Proofs.YtnddpppljnjmcaaGreatDoor.V
/- Law 5: whole numbers. -/
namespace Go.Proofs.YtnddpppljnjmcaaGreatDoor.V
open Go Go.Iv Go.Gv
set_option linter.unusedSimpArgs false
set_option linter.unusedVariables false
theorem tx_form (l : List Int) : tx l = [48] ∨ ∃ x r, tx l = x :: r ∧ (x == 48) = false := by
  unfold tx
  cases h : tl (l.reverse.map ch) with
  | nil => exact .inl rfl
  | cons x r => exact .inr ⟨x, r, rfl, tl_head _ x r h⟩
theorem pl_form (base : Int) (t : List UInt8) (h : (pl base t).2.1 = true) : (pl base t).1 = [48] ∨ ∃ x r, (pl base t).1 = x :: r ∧ (x == 48) = false := by
  unfold pl at h ⊢
  cases hb : (t.isEmpty || (ilt 5000 (len t) || !allD base t)) with
  | true => rw [hb] at h; cases h
  | false => exact tx_form _
theorem tx_len (l : List Int) : (tx l).length ≤ l.length + 1 := by
  unfold tx
  have := tl_len (l.reverse.map ch)
  rw [List.length_map, List.length_reverse] at this
  cases (tl (l.reverse.map ch)).isEmpty with
  | true => simp
  | false => simp only [cond_false]; omega
theorem pl_len (base : Int) (hk : 0 ≤ base ∧ base ≤ 16) (t : List UInt8) : (pl base t).1.length ≤ 10001 := by
  unfold pl
  cases hb : (t.isEmpty || (ilt 5000 (len t) || !allD base t)) with
  | true => simp
  | false =>
    simp only [Bool.or_eq_false_iff, Bool.not_eq_false'] at hb
    obtain ⟨_, h2, h3⟩ := hb
    rw [ilt_eq] at h2
    have h2 := of_decide_eq_false h2
    unfold len at h2
    simp only [cond_false]
    refine Nat.le_trans (tx_len _) ?_
    cases base == 10 with
    | true => simp only [cond_true, List.length_map, List.length_reverse]; omega
    | false =>
      have := (fold_ok base hk t [] Dg.nil h3).2
      simp only [cond_false, List.length_nil] at this ⊢; omega
def no : Num × (Bool × Unit) := ((false, ([], (0, 0))), (false, ()))
def fin (b : Bool) (p : List UInt8 × (Bool × Unit)) : Num × (Bool × Unit) :=
  bif p.2.1 then (norm (b && !(p.1 == [48])) p.1 0, (true, ())) else no
theorem tl_id (x : UInt8) (r : List UInt8) (h : (x == 48) = false) : tl (x :: r) = x :: r := by
  unfold tl; rw [List.dropWhile, h]
theorem trimR_id (x : UInt8) (r : List UInt8) (h : (x == 48) = false) : ∃ q, trimR (x :: r) = x :: q := by
  have hn := trimR_cons x r h
  have hp : trimR (x :: r) <+: x :: r := by
    have := (List.dropWhile_suffix (· == (48 : UInt8)) (l := (x :: r).reverse))
    have := List.reverse_prefix.2 this
    rw [List.reverse_reverse] at this
    exact this
  obtain ⟨q, hq⟩ := hp
  cases ht : trimR (x :: r) with
  | nil => rw [ht] at hn; cases hn
  | cons y z =>
    rw [ht] at hq
    injection hq with h1 h2
    exact ⟨z, by rw [h1]⟩
theorem fin_prog (n : Nat) (b : Bool) (base : Int) (hb : 0 ≤ base ∧ base ≤ 16) (t : List UInt8) (hn : 27000 ≤ n) :
    (bif !(pl base t).2.1 then some no else
      Option.bind (whole (n + 1) b (pl base t).1 0) fun y8 =>
      bif y8.1.1 then
        some (((!(y8.1.2.1 == ([(48 : UInt8)] : List UInt8))), (y8.1.2.1, (y8.1.2.2.1, y8.1.2.2.2))), Bool.true, ())
      else
      some ((Bool.false, (y8.1.2.1, (y8.1.2.2.1, y8.1.2.2.2))), Bool.true, ())) = some (fin b (pl base t)) := by
  have hl := pl_len base hb t
  rw [whole_spec (n + 1) b _ 0 (by omega) (by omega) (by omega) (by omega)]
  unfold fin
  cases h : (pl base t).2.1 with
  | false => rfl
  | true =>
    simp only [Bool.not_true, cond_false, cond_true, Option.bind_some]
    rcases pl_form base t h with hf | ⟨x, r, hf, hx⟩
    · rw [hf]; cases b <;> rfl
    · obtain ⟨q, hq⟩ := trimR_id x r hx
      have e1 : ((x :: r) == ([48] : List UInt8)) = false := by show ((x == 48) && _) = false; rw [hx]; rfl
      have e2 : ((x :: q) == ([48] : List UInt8)) = false := by show ((x == 48) && _) = false; rw [hx]; rfl
      rw [hf, e1]
      unfold norm
      rw [tl_id x r hx, hq]
      simp only [List.isEmpty_cons, cond_false, e2, Bool.not_false, Bool.and_true]
      cases b <;> rfl
def iv (s : List UInt8) : Num × (Bool × Unit) :=
  bif pre [48, 111] s then fin false (pl 8 (s.drop 2)) else bif pre [48, 120] s then fin false (pl 16 (s.drop 2)) else fin (sgn s).2 (pl 10 (sgn s).1)
theorem int_spec (n : Nat) (s : List UInt8) (hn : 27000 ≤ n) : int n s = some (iv s) := by
  unfold int iv
  rw [cutPrefix_spec, cutPrefix_spec, signed_spec]
  simp only [Option.bind_some]
  cases h1 : pre [48, 111] s with
  | true =>
    simp only [cond_true]
    rw [plain_spec n _ 8 (by omega) hn]
    exact fin_prog n false 8 (by omega) (s.drop 2) hn
  | false =>
    simp only [cond_false]
    cases h2 : pre [48, 120] s with
    | true =>
      simp only [cond_true]
      rw [plain_spec n _ 16 (by omega) hn]
      exact fin_prog n false 16 (by omega) (s.drop 2) hn
    | false =>
      simp only [cond_false]
      rw [plain_spec n _ 10 (by omega) hn]
      exact fin_prog n (sgn s).2 10 (by omega) (sgn s).1 hn
theorem pre_not (s : List UInt8) (h : pre [48, 111] s = true) : pre [48, 120] s = false := by
  match s, h with
  | [], h => cases h
  | [x], h => simp [pre] at h
  | x :: y :: r, h =>
    simp only [pre, Bool.and_true, Bool.and_eq_true, beq_iff_eq] at h ⊢
    rw [h.2]; simp
theorem pre_sgn (c : UInt8) (s : List UInt8) (h : pre [48, c] s = true) : (sgn s).2 = false ∧ 2 ≤ s.length := by
  match s, h with
  | [], h => cases h
  | [x], h => simp [pre] at h
  | x :: y :: r, h =>
    simp only [pre, Bool.and_true, Bool.and_eq_true, beq_iff_eq] at h
    rw [h.1]
    exact ⟨rfl, by simp⟩
end Go.Proofs.YtnddpppljnjmcaaGreatDoor.V
