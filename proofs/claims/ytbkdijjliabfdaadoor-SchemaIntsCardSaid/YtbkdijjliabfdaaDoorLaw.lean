/- Plain functions for the program's. -/
import Derived.Test.YtbkdijjliabfdaaDoorGs
import Derived.Test.YtbkdijjliabfdaaDoorProg
import Derived.KernelRfl
import Derived.Test.YtbkdijjliabfdaaDoorGvPlain
import Derived.Test.YtbkdijjliabfdaaDoorGvRec
set_option linter.unusedSimpArgs false
set_option linter.unusedVariables false
namespace Go.Proofs.YtbkdijjliabfdaaDoor
open Go Go.Iv Go.Gv
set_option maxRecDepth 100000
set_option linter.unusedVariables false
noncomputable def L27_2_Xexit0 : Tm := ⟨[(3, .one (.int .i64))], [], 64, 64, 1000⟩
noncomputable def L27_2_T : Tm := ⟨[(0, .one (.str)), (3, .one (.int .i64))], [], 64, 64, 1000⟩
noncomputable def L27_2 : Nat → (List UInt8) → Int → Option ((Int × Unit) × Unit)
  | 0, _, _ => none
  | n + 1, t0, t3 =>
    Option.bind (bif (Go.Iv.ilt t3 (len t0)) then
        bif (Go.Iv.ile (0 : Int) t3) then
        Option.bind (t0[(Int.toNat t3)]?) fun x9 =>
        bif (Nat.ble (UInt8.toNat (48 : UInt8)) (UInt8.toNat x9)) then
          bif (Go.Iv.ile (0 : Int) t3) then
          Option.bind (t0[(Int.toNat t3)]?) fun x10 =>
          some (Nat.ble (UInt8.toNat x10) (UInt8.toNat (57 : UInt8)))
          else none
        else
        some Bool.false
        else none
      else
      some Bool.false) fun b11 =>
    bif b11 then
      L27_2 n t0 (Go.IntKind.wrap Go.IntKind.i64 (t3 + (1 : Int)))
    else
    some ((t3, ()), ())
noncomputable def L27_2_it : LoopIt := ⟨27, 2, none, L27_2_T, [(.exit 0, L27_2_Xexit0)], 0, fun n x => L27_2 n x.1.1 x.1.2.1⟩
theorem L27_2_Xexit0_ok : L27_2_Xexit0.ok Go.Proofs.Tryd.prog hint := by
  intro p hp
  cases hp
theorem L27_2_T_ok : L27_2_T.ok Go.Proofs.Tryd.prog hint := by
  intro p hp
  cases hp
theorem L27_2_ok : ∀ n, LoopOK Go.Proofs.Tryd.prog hint shT L27_2_it n :=
  LoopOK.of (hk := fun β => (Known.mk [] []).hk β) (sh := shT) (OneLoop.of (by kernel_rfl)) L27_2_T_ok ⟨⟨L27_2_Xexit0_ok, Nat.le_refl _, Nat.le_refl _⟩, trivial⟩ (fun m => KnownOK.hook KnownOK.nil m)
    (fun _ => by kernel_rfl) (fun m x => by kernel_rfl)

noncomputable def count (n : Nat) (s : List UInt8) : Option (Int × Unit) :=
  Option.bind (L27_2 (n + 1) s (0 : Int)) fun y12 =>
  some (y12.1.1, ())
noncomputable def count_it : FnIt := ⟨27, [(false, .str)], [(false, (.int .i64))], 1, fun n x => count n x.1⟩
theorem count_ok (n : Nat) : FnOK Go.Proofs.Tryd.prog hint shT count_it n :=
  FnOK.of (hk := fun β => (Known.mk [] [L27_2_it]).hk β) (sh := shT) (fun m _ => KnownOK.hook (KnownOK.nil.loop L27_2_ok L27_2_T_ok) m) (fun x => by kernel_rfl)

noncomputable def hasPrefixL (_n : Nat) (s : List UInt8) (x : List UInt8) : Option (Bool × Unit) :=
  bif (Go.Iv.ile (len x) (len s)) then
    bif (Go.Iv.ile (len x) (len s)) then
    some (((List.take ((Int.toNat (len x)) - 0) (List.drop 0 s)) == x), ())
    else none
  else
  some (Bool.false, ())
noncomputable def hasPrefixL_it : FnIt := ⟨40, [(false, .str), (false, .str)], [(false, .bool)], 0, fun n x => hasPrefixL n x.1 x.2.1⟩
theorem hasPrefixL_ok (n : Nat) : FnOK Go.Proofs.Tryd.prog hint shT hasPrefixL_it n :=
  FnOK.of (hk := fun β => (Known.mk [] []).hk β) (sh := shT) (fun m _ => KnownOK.hook KnownOK.nil m) (fun x => by kernel_rfl)

noncomputable def hasPrefix (n : Nat) (s : List UInt8) (x : List UInt8) : Option (Bool × Unit) :=
  Option.bind (hasPrefixL n s x) fun y0 =>
  some (y0.1, ())
noncomputable def hasPrefix_it : FnIt := ⟨28, [(false, .str), (false, .str)], [(false, .bool)], 1, fun n x => hasPrefix n x.1 x.2.1⟩
theorem hasPrefix_ok (n : Nat) : FnOK Go.Proofs.Tryd.prog hint shT hasPrefix_it n :=
  FnOK.of (hk := fun β => (Known.mk [hasPrefixL_it] []).hk β) (sh := shT) (fun m _ => KnownOK.hook (KnownOK.nil.fn hasPrefixL_ok) m) (fun x => by kernel_rfl)

noncomputable def trimPrefix (n : Nat) (s : List UInt8) (x : List UInt8) : Option ((List UInt8) × Unit) :=
  Option.bind (hasPrefixL n s x) fun y0 =>
  bif y0.1 then
    bif (Go.Iv.ile (len x) (len s)) then
    some ((List.take ((List.length s) - (Int.toNat (len x))) (List.drop (Int.toNat (len x)) s)), ())
    else none
  else
  some (s, ())
noncomputable def trimPrefix_it : FnIt := ⟨30, [(false, .str), (false, .str)], [(false, .str)], 2, fun n x => trimPrefix n x.1 x.2.1⟩
theorem trimPrefix_ok (n : Nat) : FnOK Go.Proofs.Tryd.prog hint shT trimPrefix_it n :=
  FnOK.of (hk := fun β => (Known.mk [hasPrefixL_it] []).hk β) (sh := shT) (fun m _ => KnownOK.hook (KnownOK.nil.fn hasPrefixL_ok) m) (fun x => by kernel_rfl)

noncomputable def cutPrefix (n : Nat) (s : List UInt8) (x : List UInt8) : Option ((List UInt8) × (Bool × Unit)) :=
  Option.bind (hasPrefixL n s x) fun y0 =>
  bif (!y0.1) then
    some (s, Bool.false, ())
  else
  bif (Go.Iv.ile (len x) (len s)) then
  some ((List.take ((List.length s) - (Int.toNat (len x))) (List.drop (Int.toNat (len x)) s)), Bool.true, ())
  else none
noncomputable def cutPrefix_it : FnIt := ⟨22, [(false, .str), (false, .str)], [(false, .str), (false, .bool)], 2, fun n x => cutPrefix n x.1 x.2.1⟩
theorem cutPrefix_ok (n : Nat) : FnOK Go.Proofs.Tryd.prog hint shT cutPrefix_it n :=
  FnOK.of (hk := fun β => (Known.mk [hasPrefixL_it] []).hk β) (sh := shT) (fun m _ => KnownOK.hook (KnownOK.nil.fn hasPrefixL_ok) m) (fun x => by kernel_rfl)

noncomputable def signed (n : Nat) (s : List UInt8) : Option ((List UInt8) × (Bool × Unit)) :=
  Option.bind (hasPrefix (n + 1) s ([(45 : UInt8)] : List UInt8)) fun y0 =>
  bif y0.1 then
    bif (Go.Iv.ile (1 : Int) (len s)) then
    some ((List.take ((List.length s) - 1) (List.drop 1 s)), Bool.true, ())
    else none
  else
  Option.bind (trimPrefix n s ([(43 : UInt8)] : List UInt8)) fun y1 =>
  some (y1.1, Bool.false, ())
noncomputable def signed_it : FnIt := ⟨23, [(false, .str)], [(false, .str), (false, .bool)], 3, fun n x => signed n x.1⟩
theorem signed_ok (n : Nat) : FnOK Go.Proofs.Tryd.prog hint shT signed_it n :=
  FnOK.of (hk := fun β => (Known.mk [trimPrefix_it, hasPrefix_it] []).hk β) (sh := shT) (fun m _ => KnownOK.hook ((KnownOK.nil.fn hasPrefix_ok).fn trimPrefix_ok) m) (fun x => by kernel_rfl)

noncomputable def L48_1_Xexit0 : Tm := ⟨[(0, .one (.str))], [], 64, 64, 1000⟩
noncomputable def L48_1_T : Tm := ⟨[(0, .one (.str)), (1, .one (.byte))], [], 64, 64, 1000⟩
noncomputable def L48_1 : Nat → (List UInt8) → UInt8 → Option (((List UInt8) × Unit) × Unit)
  | 0, _, _ => none
  | n + 1, t0, t1 =>
    Option.bind (bif (Go.Iv.ilt (0 : Int) (len t0)) then
        Option.bind (t0[0]?) fun x7 =>
        some (x7 == t1)
      else
      some Bool.false) fun b8 =>
    bif b8 then
      bif (Go.Iv.ile (1 : Int) (len t0)) then
      L48_1 n (List.take ((List.length t0) - 1) (List.drop 1 t0)) t1
      else none
    else
    some ((t0, ()), ())
noncomputable def L48_1_it : LoopIt := ⟨48, 1, none, L48_1_T, [(.exit 0, L48_1_Xexit0)], 0, fun n x => L48_1 n x.1.1 x.1.2.1⟩
theorem L48_1_Xexit0_ok : L48_1_Xexit0.ok Go.Proofs.Tryd.prog hint := by
  intro p hp
  cases hp
theorem L48_1_T_ok : L48_1_T.ok Go.Proofs.Tryd.prog hint := by
  intro p hp
  cases hp
theorem L48_1_ok : ∀ n, LoopOK Go.Proofs.Tryd.prog hint shT L48_1_it n :=
  LoopOK.of (hk := fun β => (Known.mk [] []).hk β) (sh := shT) (OneLoop.of (by kernel_rfl)) L48_1_T_ok ⟨⟨L48_1_Xexit0_ok, Nat.le_refl _, Nat.le_refl _⟩, trivial⟩ (fun m => KnownOK.hook KnownOK.nil m)
    (fun _ => by kernel_rfl) (fun m x => by kernel_rfl)

noncomputable def trimLeftByte (n : Nat) (s : List UInt8) (c : UInt8) : Option ((List UInt8) × Unit) :=
  Option.bind (L48_1 (n + 1) s c) fun y9 =>
  some (y9.1.1, ())
noncomputable def trimLeftByte_it : FnIt := ⟨48, [(false, .str), (false, .byte)], [(false, .str)], 1, fun n x => trimLeftByte n x.1 x.2.1⟩
theorem trimLeftByte_ok (n : Nat) : FnOK Go.Proofs.Tryd.prog hint shT trimLeftByte_it n :=
  FnOK.of (hk := fun β => (Known.mk [] [L48_1_it]).hk β) (sh := shT) (fun m _ => KnownOK.hook (KnownOK.nil.loop L48_1_ok L48_1_T_ok) m) (fun x => by kernel_rfl)

noncomputable def L52_1_Xexit0 : Tm := ⟨[(0, .one (.str))], [], 64, 64, 1000⟩
noncomputable def L52_1_T : Tm := ⟨[(0, .one (.str)), (1, .one (.byte))], [], 64, 64, 1000⟩
noncomputable def L52_1 : Nat → (List UInt8) → UInt8 → Option (((List UInt8) × Unit) × Unit)
  | 0, _, _ => none
  | n + 1, t0, t1 =>
    Option.bind (bif (Go.Iv.ilt (0 : Int) (len t0)) then
        bif (Go.Iv.ile (0 : Int) (Go.IntKind.wrap Go.IntKind.i64 ((len t0) - (1 : Int)))) then
        Option.bind (t0[(Int.toNat (Go.IntKind.wrap Go.IntKind.i64 ((len t0) - (1 : Int))))]?) fun x7 =>
        some (x7 == t1)
        else none
      else
      some Bool.false) fun b8 =>
    bif b8 then
      bif ((Go.Iv.ile (0 : Int) (Go.IntKind.wrap Go.IntKind.i64 ((len t0) - (1 : Int)))) && (Go.Iv.ile (Go.IntKind.wrap Go.IntKind.i64 ((len t0) - (1 : Int))) (len t0))) then
      L52_1 n (List.take ((Int.toNat (Go.IntKind.wrap Go.IntKind.i64 ((len t0) - (1 : Int)))) - 0) (List.drop 0 t0)) t1
      else none
    else
    some ((t0, ()), ())
noncomputable def L52_1_it : LoopIt := ⟨52, 1, none, L52_1_T, [(.exit 0, L52_1_Xexit0)], 0, fun n x => L52_1 n x.1.1 x.1.2.1⟩
theorem L52_1_Xexit0_ok : L52_1_Xexit0.ok Go.Proofs.Tryd.prog hint := by
  intro p hp
  cases hp
theorem L52_1_T_ok : L52_1_T.ok Go.Proofs.Tryd.prog hint := by
  intro p hp
  cases hp
theorem L52_1_ok : ∀ n, LoopOK Go.Proofs.Tryd.prog hint shT L52_1_it n :=
  LoopOK.of (hk := fun β => (Known.mk [] []).hk β) (sh := shT) (OneLoop.of (by kernel_rfl)) L52_1_T_ok ⟨⟨L52_1_Xexit0_ok, Nat.le_refl _, Nat.le_refl _⟩, trivial⟩ (fun m => KnownOK.hook KnownOK.nil m)
    (fun _ => by kernel_rfl) (fun m x => by kernel_rfl)

noncomputable def trimRightByte (n : Nat) (s : List UInt8) (c : UInt8) : Option ((List UInt8) × Unit) :=
  Option.bind (L52_1 (n + 1) s c) fun y9 =>
  some (y9.1.1, ())
noncomputable def trimRightByte_it : FnIt := ⟨52, [(false, .str), (false, .byte)], [(false, .str)], 1, fun n x => trimRightByte n x.1 x.2.1⟩
theorem trimRightByte_ok (n : Nat) : FnOK Go.Proofs.Tryd.prog hint shT trimRightByte_it n :=
  FnOK.of (hk := fun β => (Known.mk [] [L52_1_it]).hk β) (sh := shT) (fun m _ => KnownOK.hook (KnownOK.nil.loop L52_1_ok L52_1_T_ok) m) (fun x => by kernel_rfl)

noncomputable def whole (n : Nat) (below : Bool) (d : List UInt8) (exp : Int) : Option ((Bool × (List UInt8 × (Int × Int))) × Unit) :=
  Option.bind (bif (d == ([] : List UInt8)) then
      some Bool.true
    else
    some Bool.false) fun b1 =>
  bif b1 then
    Option.bind (bif (d == ([] : List UInt8)) then
        some Bool.true
      else
      some Bool.false) fun b3 =>
    bif b3 then
      bif (d == ([] : List UInt8)) then
        some ((below, (([(48 : UInt8)] : List UInt8), ((0 : Int), (0 : Int)))), ())
      else
      some ((below, (d, ((Go.IntKind.wrap Go.IntKind.i64 ((Go.IntKind.wrap Go.IntKind.i64 (exp + (len d))) - (len d))), (0 : Int)))), ())
    else
    Option.bind (trimRightByte n d (48 : UInt8)) fun y5 =>
    bif (y5.1 == ([] : List UInt8)) then
      some ((below, (([(48 : UInt8)] : List UInt8), ((0 : Int), (0 : Int)))), ())
    else
    some ((below, (y5.1, ((Go.IntKind.wrap Go.IntKind.i64 ((Go.IntKind.wrap Go.IntKind.i64 (exp + (len d))) - (len y5.1))), (0 : Int)))), ())
  else
  Option.bind (trimLeftByte n d (48 : UInt8)) fun y7 =>
  Option.bind (bif (y7.1 == ([] : List UInt8)) then
      some Bool.true
    else
    some Bool.false) fun b9 =>
  bif b9 then
    bif (y7.1 == ([] : List UInt8)) then
      some ((below, (([(48 : UInt8)] : List UInt8), ((0 : Int), (0 : Int)))), ())
    else
    some ((below, (y7.1, ((Go.IntKind.wrap Go.IntKind.i64 ((Go.IntKind.wrap Go.IntKind.i64 (exp + (len y7.1))) - (len y7.1))), (0 : Int)))), ())
  else
  Option.bind (trimRightByte n y7.1 (48 : UInt8)) fun y11 =>
  bif (y11.1 == ([] : List UInt8)) then
    some ((below, (([(48 : UInt8)] : List UInt8), ((0 : Int), (0 : Int)))), ())
  else
  some ((below, (y11.1, ((Go.IntKind.wrap Go.IntKind.i64 ((Go.IntKind.wrap Go.IntKind.i64 (exp + (len y7.1))) - (len y11.1))), (0 : Int)))), ())
noncomputable def whole_it : FnIt := ⟨25, [(false, .bool), (false, .str), (false, (.int .i64))], [(true, (.cons .bool (.cons .str (.cons (.int .i64) (.int .i64)))))], 3, fun n x => whole n x.1 x.2.1 x.2.2.1⟩
theorem whole_ok (n : Nat) : FnOK Go.Proofs.Tryd.prog hint shT whole_it n :=
  FnOK.of (hk := fun β => (Known.mk [trimLeftByte_it, trimRightByte_it] []).hk β) (sh := shT) (fun m _ => KnownOK.hook ((KnownOK.nil.fn trimRightByte_ok).fn trimLeftByte_ok) m) (fun x => by kernel_rfl)

noncomputable def hex (_n : Nat) (c : Int) : Option (Int × Unit) :=
  Option.bind (bif (Go.Iv.ile (48 : Int) c) then
      some (Go.Iv.ile c (57 : Int))
    else
    some Bool.false) fun b1 =>
  bif b1 then
    some ((Go.IntKind.wrap Go.IntKind.i64 (c - (48 : Int))), ())
  else
  Option.bind (bif (Go.Iv.ile (97 : Int) c) then
      some (Go.Iv.ile c (102 : Int))
    else
    some Bool.false) fun b3 =>
  bif b3 then
    some ((Go.IntKind.wrap Go.IntKind.i64 ((Go.IntKind.wrap Go.IntKind.i64 (c - (97 : Int))) + (10 : Int))), ())
  else
  Option.bind (bif (Go.Iv.ile (65 : Int) c) then
      some (Go.Iv.ile c (70 : Int))
    else
    some Bool.false) fun b5 =>
  bif b5 then
    some ((Go.IntKind.wrap Go.IntKind.i64 ((Go.IntKind.wrap Go.IntKind.i64 (c - (65 : Int))) + (10 : Int))), ())
  else
  some ((-(1 : Int)), ())
noncomputable def hex_it : FnIt := ⟨34, [(false, (.int .i64))], [(false, (.int .i64))], 1, fun n x => hex n x.1⟩
theorem hex_ok (n : Nat) : FnOK Go.Proofs.Tryd.prog hint shT hex_it n :=
  FnOK.of (hk := fun β => (Known.mk [] []).hk β) (sh := shT) (fun m _ => KnownOK.hook KnownOK.nil m) (fun x => by kernel_rfl)

noncomputable def L35_3_Xexit0 : Tm := ⟨[(7, .one (.all 64 3 (.int .i64) true))], [], 64, 65, 1000⟩
noncomputable def L35_3_T : Tm := ⟨[(0, .one (.lst (.int .i64))), (1, .one (.int .i64)), (2, .one (.int .i64)), (7, .one (.all 64 3 (.int .i64) true)), (8, .one (.int .i64))], [], 64, 65, 1000⟩
noncomputable def L35_3 : Nat → (List Int) → Int → Int → (List Int) → Int → Option (((List Int) × Unit) × Unit)
  | 0, _, _, _, _, _ => none
  | n + 1, t0, t1, t2, t7, t8 =>
    Option.bind (bif (Go.Iv.ilt t8 (len t0)) then
        some Bool.true
      else
      some (Go.Iv.ilt (0 : Int) t2)) fun b10 =>
    bif b10 then
      bif (Go.Iv.ilt t8 (len t0)) then
        bif (Go.Iv.ile (0 : Int) t8) then
        Option.bind (t0[(Int.toNat t8)]?) fun x11 =>
        bif (room (((List.length t7) + (List.length ((Int.tmod (Go.IntKind.wrap Go.IntKind.i64 (t2 + (Go.IntKind.wrap Go.IntKind.i64 (x11 * t1)))) (10 : Int)) :: ([] : List Int)))) * 9)) then
        L35_3 n t0 t1 (Go.IntKind.wrap Go.IntKind.i64 (Int.tdiv (Go.IntKind.wrap Go.IntKind.i64 (t2 + (Go.IntKind.wrap Go.IntKind.i64 (x11 * t1)))) (10 : Int))) (t7 ++ ((Int.tmod (Go.IntKind.wrap Go.IntKind.i64 (t2 + (Go.IntKind.wrap Go.IntKind.i64 (x11 * t1)))) (10 : Int)) :: ([] : List Int))) (Go.IntKind.wrap Go.IntKind.i64 (t8 + (1 : Int)))
        else none
        else none
      else
      bif (room (((List.length t7) + (List.length ((Int.tmod (Go.IntKind.wrap Go.IntKind.i64 (t2 + (Go.IntKind.wrap Go.IntKind.i64 ((0 : Int) * t1)))) (10 : Int)) :: ([] : List Int)))) * 9)) then
      L35_3 n t0 t1 (Go.IntKind.wrap Go.IntKind.i64 (Int.tdiv (Go.IntKind.wrap Go.IntKind.i64 (t2 + (Go.IntKind.wrap Go.IntKind.i64 ((0 : Int) * t1)))) (10 : Int))) (t7 ++ ((Int.tmod (Go.IntKind.wrap Go.IntKind.i64 (t2 + (Go.IntKind.wrap Go.IntKind.i64 ((0 : Int) * t1)))) (10 : Int)) :: ([] : List Int))) (Go.IntKind.wrap Go.IntKind.i64 (t8 + (1 : Int)))
      else none
    else
    some ((t7, ()), ())
noncomputable def L35_3_it : LoopIt := ⟨35, 3, none, L35_3_T, [(.exit 0, L35_3_Xexit0)], 1, fun n x => L35_3 n x.1.1 x.1.2.1 x.1.2.2.1 x.1.2.2.2.1 x.1.2.2.2.2.1⟩
theorem L35_3_Xexit0_ok : L35_3_Xexit0.ok Go.Proofs.Tryd.prog hint := by
  intro p hp
  cases hp
theorem L35_3_T_ok : L35_3_T.ok Go.Proofs.Tryd.prog hint := by
  intro p hp
  cases hp
theorem L35_3_ok : ∀ n, LoopOK Go.Proofs.Tryd.prog hint shT L35_3_it n :=
  LoopOK.of (hk := fun β => (Known.mk [] []).hk β) (sh := shT) (OneLoop.of (by kernel_rfl)) L35_3_T_ok ⟨⟨L35_3_Xexit0_ok, Nat.le_refl _, Nat.le_refl _⟩, trivial⟩ (fun m => KnownOK.hook KnownOK.nil m)
    (fun _ => by kernel_rfl) (fun m x => by kernel_rfl)

noncomputable def times (n : Nat) (l : List Int) (k : Int) (more : Int) : Option ((List Int) × Unit) :=
  Option.bind (L35_3 n l k more ([] : List Int) (0 : Int)) fun y12 =>
  some (y12.1.1, ())
noncomputable def times_it : FnIt := ⟨35, [(false, (.slc (.int .i64))), (false, (.int .i64)), (false, (.int .i64))], [(false, (.slc (.int .i64)))], 1, fun n x => times n x.1 x.2.1 x.2.2.1⟩
theorem times_ok (n : Nat) : FnOK Go.Proofs.Tryd.prog hint shT times_it n :=
  FnOK.of (hk := fun β => (Known.mk [] [L35_3_it]).hk β) (sh := shT) (fun m _ => KnownOK.hook (KnownOK.nil.loop L35_3_ok L35_3_T_ok) m) (fun x => by kernel_rfl)

noncomputable def L36_5_Xexit0 : Tm := ⟨[(3, .one (.all 64 3 (.int .i64) true))], [], 64, 65, 1000⟩
noncomputable def L36_5_Xret : Tm := ⟨[(2, .one (.fix (Go.Gv.TV.raw (Go.Value.slice (Option.none) 0 0))))], [], 64, 64, 1000⟩
noncomputable def L36_5_T : Tm := ⟨[(0, .one (.str)), (3, .one (.all 64 3 (.int .i64) true)), (4, .one (.int .i64))], [], 64, 65, 1000⟩
noncomputable def L36_5 : Nat → (List UInt8) → (List Int) → Int → Option ((((List Int) × Unit) × Unit) ⊕ ((Unit × Unit) × Unit))
  | 0, _, _, _ => none
  | n + 1, t0, t3, t4 =>
    bif (Go.Iv.ile (0 : Int) t4) then
      bif (Go.Iv.ile (0 : Int) t4) then
      Option.bind (t0[(Int.toNat t4)]?) fun x9 =>
      Option.bind (bif (Go.Iv.ilt (Go.IntKind.wrap Go.IntKind.i64 ((Go.IntKind.wrap Go.IntKind.i64 (ub x9)) - (48 : Int))) (0 : Int)) then
          some Bool.true
        else
        some (Go.Iv.ile (10 : Int) (Go.IntKind.wrap Go.IntKind.i64 ((Go.IntKind.wrap Go.IntKind.i64 (ub x9)) - (48 : Int))))) fun b11 =>
      bif b11 then
        some (.inr (((), ()), ()))
      else
      bif (room (((List.length t3) + (List.length ((Go.IntKind.wrap Go.IntKind.i64 ((Go.IntKind.wrap Go.IntKind.i64 (ub x9)) - (48 : Int))) :: ([] : List Int)))) * 9)) then
      L36_5 n t0 (t3 ++ ((Go.IntKind.wrap Go.IntKind.i64 ((Go.IntKind.wrap Go.IntKind.i64 (ub x9)) - (48 : Int))) :: ([] : List Int))) (Go.IntKind.wrap Go.IntKind.i64 (t4 - (1 : Int)))
      else none
      else none
    else
    some (.inl ((t3, ()), ()))
noncomputable def L36_5_it : LoopIt := ⟨36, 5, none, L36_5_T, [(.exit 0, L36_5_Xexit0), (.ret, L36_5_Xret)], 0, fun n x => L36_5 n x.1.1 x.1.2.1 x.1.2.2.1⟩
theorem L36_5_Xexit0_ok : L36_5_Xexit0.ok Go.Proofs.Tryd.prog hint := by
  intro p hp
  cases hp
theorem L36_5_Xret_ok : L36_5_Xret.ok Go.Proofs.Tryd.prog hint := by
  intro p hp
  cases hp
theorem L36_5_T_ok : L36_5_T.ok Go.Proofs.Tryd.prog hint := by
  intro p hp
  cases hp
theorem L36_5_ok : ∀ n, LoopOK Go.Proofs.Tryd.prog hint shT L36_5_it n :=
  LoopOK.of (hk := fun β => (Known.mk [] []).hk β) (sh := shT) (OneLoop.of (by kernel_rfl)) L36_5_T_ok ⟨⟨L36_5_Xexit0_ok, Nat.le_refl _, Nat.le_refl _⟩, ⟨L36_5_Xret_ok, Nat.le_refl _, Nat.le_refl _⟩, trivial⟩ (fun m => KnownOK.hook KnownOK.nil m)
    (fun _ => by kernel_rfl) (fun m x => by kernel_rfl)

noncomputable def of (n : Nat) (s : List UInt8) : Option ((List Int) × Unit) :=
  bif (Go.Iv.ilt (5000 : Int) (len s)) then
    some (([] : List Int), ())
  else
  Option.bind (L36_5 (n + 1) s ([] : List Int) (Go.IntKind.wrap Go.IntKind.i64 ((len s) - (1 : Int)))) fun y12 =>
  match y12 with
    | .inl y13 =>
      some (y13.1.1, ())
    | .inr _ =>
      some (([] : List Int), ())
noncomputable def of_it : FnIt := ⟨36, [(false, .str)], [(false, (.slc (.int .i64)))], 1, fun n x => of n x.1⟩
theorem of_ok (n : Nat) : FnOK Go.Proofs.Tryd.prog hint shT of_it n :=
  FnOK.of (hk := fun β => (Known.mk [] [L36_5_it]).hk β) (sh := shT) (fun m _ => KnownOK.hook (KnownOK.nil.loop L36_5_ok L36_5_T_ok) m) (fun x => by kernel_rfl)

noncomputable def L37_3_Xexit0 : Tm := ⟨[(3, .one (.fix (Go.Gv.TV.ptr 64 0)))], [(64, .cells 68 [.fix (Go.Gv.TV.ptr 64 0), .all 67 5 .byte true] true)], 67, 68, 1005⟩
noncomputable def L37_3_T : Tm := ⟨[(0, .one (.lst (.int .i64))), (3, .one (.fix (Go.Gv.TV.ptr 64 0))), (4, .one (.int .i64))], [(64, .cells 68 [.fix (Go.Gv.TV.ptr 64 0), .all 67 5 .byte true] true)], 67, 68, 1005⟩
noncomputable def L37_3 : Nat → (List Int) → Int → (List UInt8) → Option ((Unit × Unit) × ((Unit × ((List UInt8) × Unit)) × Unit))
  | 0, _, _, _ => none
  | n + 1, t0, t4, c64_1 =>
    bif (Go.Iv.ile (0 : Int) t4) then
      bif (Go.Iv.ile (0 : Int) t4) then
      Option.bind (t0[(Int.toNat t4)]?) fun x3 =>
      bif (room (((List.length c64_1) + (List.length ((UInt8.ofNat (Int.toNat (Go.IntKind.wrap Go.IntKind.u8 (Go.IntKind.wrap Go.IntKind.i64 ((48 : Int) + x3))))) :: ([] : List UInt8)))) * 2)) then
      L37_3 n t0 (Go.IntKind.wrap Go.IntKind.i64 (t4 - (1 : Int))) (c64_1 ++ ((UInt8.ofNat (Int.toNat (Go.IntKind.wrap Go.IntKind.u8 (Go.IntKind.wrap Go.IntKind.i64 ((48 : Int) + x3))))) :: ([] : List UInt8)))
      else none
      else none
    else
    some (((), ()), (((), (c64_1, ())), ()))
noncomputable def L37_3_it : LoopIt := ⟨37, 3, none, L37_3_T, [(.exit 0, L37_3_Xexit0)], 2, fun n x => L37_3 n x.1.1 x.1.2.2.1 x.2.1.2.1⟩
theorem L37_3_Xexit0_ok : L37_3_Xexit0.ok Go.Proofs.Tryd.prog hint := by
  intro p hp
  simp only [L37_3_Xexit0, List.mem_cons, List.not_mem_nil, or_false] at hp
  rcases hp with rfl
  · trivial
theorem L37_3_T_ok : L37_3_T.ok Go.Proofs.Tryd.prog hint := by
  intro p hp
  simp only [L37_3_T, List.mem_cons, List.not_mem_nil, or_false] at hp
  rcases hp with rfl
  · trivial
theorem L37_3_ok : ∀ n, LoopOK Go.Proofs.Tryd.prog hint shT L37_3_it n :=
  LoopOK.of (hk := fun β => (Known.mk [] []).hk β) (sh := shT) (OneLoop.of (by kernel_rfl)) L37_3_T_ok ⟨⟨L37_3_Xexit0_ok, Nat.le_refl _, Nat.le_refl _⟩, trivial⟩ (fun m => KnownOK.hook KnownOK.nil m)
    (fun _ => by kernel_rfl) (fun m x => by kernel_rfl)

noncomputable def text (n : Nat) (l : List Int) : Option ((List UInt8) × Unit) :=
  bif (Go.Iv.ile (0 : Int) (Go.IntKind.wrap Go.IntKind.i64 ((len l) - (1 : Int)))) then
    bif (Go.Iv.ile (0 : Int) (Go.IntKind.wrap Go.IntKind.i64 ((len l) - (1 : Int)))) then
    Option.bind (l[(Int.toNat (Go.IntKind.wrap Go.IntKind.i64 ((len l) - (1 : Int))))]?) fun x0 =>
    Option.bind (L37_3 n l (Go.IntKind.wrap Go.IntKind.i64 ((Go.IntKind.wrap Go.IntKind.i64 ((len l) - (1 : Int))) - (1 : Int))) ((UInt8.ofNat (Int.toNat (Go.IntKind.wrap Go.IntKind.u8 (Go.IntKind.wrap Go.IntKind.i64 ((48 : Int) + x0))))) :: ([] : List UInt8))) fun y4 =>
    bif (List.isEmpty y4.2.1.2.1) then
      bif ((len y4.2.1.2.1) == (0 : Int)) then
      some (([(48 : UInt8)] : List UInt8), ())
      else none
    else
    bif ((Go.Iv.ile (len y4.2.1.2.1) (len y4.2.1.2.1)) && (Go.Iv.ile (len y4.2.1.2.1) (1099511627776 : Int))) then
    Option.bind (bif ((List.take (Int.toNat (len y4.2.1.2.1)) y4.2.1.2.1) == ([] : List UInt8)) then
        some Bool.true
      else
      some Bool.false) fun b7 =>
    bif b7 then
      bif (!((List.take (Int.toNat (len y4.2.1.2.1)) y4.2.1.2.1) == ([] : List UInt8))) then
        some ((List.take (Int.toNat (len y4.2.1.2.1)) y4.2.1.2.1), ())
      else
      some (([(48 : UInt8)] : List UInt8), ())
    else
    Option.bind (trimLeftByte n (List.take (Int.toNat (len y4.2.1.2.1)) y4.2.1.2.1) (48 : UInt8)) fun y9 =>
    bif (!(y9.1 == ([] : List UInt8))) then
      some (y9.1, ())
    else
    some (([(48 : UInt8)] : List UInt8), ())
    else none
    else none
  else
  some (([(48 : UInt8)] : List UInt8), ())
noncomputable def text_it : FnIt := ⟨37, [(false, (.slc (.int .i64)))], [(false, .str)], 3, fun n x => text n x.1⟩
theorem text_ok (n : Nat) : FnOK Go.Proofs.Tryd.prog hint shT text_it n :=
  FnOK.of (hk := fun β => (Known.mk [trimLeftByte_it] [L37_3_it]).hk β) (sh := shT) (fun m _ => KnownOK.hook ((KnownOK.nil.loop L37_3_ok L37_3_T_ok).fn trimLeftByte_ok) m) (fun x => by kernel_rfl)

noncomputable def L24_5_Xexit0 : Tm := ⟨[(0, .one (.str)), (1, .one (.int .i64)), (6, .one (.lst (.int .i64)))], [], 64, 64, 1000⟩
noncomputable def L24_5_Xret : Tm := ⟨[(4, .one (.str)), (5, .one (.bool))], [], 64, 64, 1000⟩
noncomputable def L24_5_T : Tm := ⟨[(0, .one (.str)), (1, .one (.int .i64)), (6, .one (.lst (.int .i64))), (30, .one (.lst .byte)), (31, .one (.int .i64)), (32, .one (.int .i64))], [], 64, 64, 1000⟩
noncomputable def L24_5 : Nat → (List UInt8) → Int → (List Int) → (List UInt8) → Int → Int → Option ((((List UInt8) × (Int × ((List Int) × Unit))) × Unit) ⊕ (((List UInt8) × (Bool × Unit)) × Unit))
  | 0, _, _, _, _, _, _ => none
  | n + 1, t0, t1, t6, t30, t31, t32 =>
    bif (Go.Iv.ilt t32 t31) then
      bif (Go.Iv.ile (0 : Int) t32) then
      Option.bind (t30[(Int.toNat t32)]?) fun x17 =>
      Option.bind (hex (n + 1) (Go.IntKind.wrap Go.IntKind.i64 (ub x17))) fun y18 =>
      Option.bind (bif (Go.Iv.ilt y18.1 (0 : Int)) then
          some Bool.true
        else
        some (Go.Iv.ile t1 y18.1)) fun b20 =>
      bif b20 then
        some (.inr ((([] : List UInt8), (Bool.false, ())), ()))
      else
      bif (t1 != (10 : Int)) then
        Option.bind (times (n + 1) t6 t1 y18.1) fun y21 =>
        L24_5 n t0 t1 y21.1 t30 t31 (Go.IntKind.wrap Go.IntKind.i64 (t32 + (1 : Int)))
      else
      L24_5 n t0 t1 t6 t30 t31 (Go.IntKind.wrap Go.IntKind.i64 (t32 + (1 : Int)))
      else none
    else
    some (.inl ((t0, (t1, (t6, ()))), ()))
noncomputable def L24_5_it : LoopIt := ⟨24, 5, none, L24_5_T, [(.exit 0, L24_5_Xexit0), (.ret, L24_5_Xret)], 2, fun n x => L24_5 n x.1.1 x.1.2.1 x.1.2.2.1 x.1.2.2.2.1 x.1.2.2.2.2.1 x.1.2.2.2.2.2.1⟩
theorem L24_5_Xexit0_ok : L24_5_Xexit0.ok Go.Proofs.Tryd.prog hint := by
  intro p hp
  cases hp
theorem L24_5_Xret_ok : L24_5_Xret.ok Go.Proofs.Tryd.prog hint := by
  intro p hp
  cases hp
theorem L24_5_T_ok : L24_5_T.ok Go.Proofs.Tryd.prog hint := by
  intro p hp
  cases hp
theorem L24_5_ok : ∀ n, LoopOK Go.Proofs.Tryd.prog hint shT L24_5_it n :=
  LoopOK.of (hk := fun β => (Known.mk [times_it, hex_it] []).hk β) (sh := shT) (OneLoop.of (by kernel_rfl)) L24_5_T_ok ⟨⟨L24_5_Xexit0_ok, Nat.le_refl _, Nat.le_refl _⟩, ⟨L24_5_Xret_ok, Nat.le_refl _, Nat.le_refl _⟩, trivial⟩ (fun m => KnownOK.hook ((KnownOK.nil.fn hex_ok).fn times_ok) m)
    (fun _ => by kernel_rfl) (fun m x => by kernel_rfl)

noncomputable def plain (n : Nat) (s : List UInt8) (base : Int) : Option ((List UInt8) × (Bool × Unit)) :=
  Option.bind (bif (s == ([] : List UInt8)) then
      some Bool.true
    else
    bif (Go.Iv.ilt (5000 : Int) (len s)) then
      some Bool.true
    else
    bif (base != (8 : Int)) then
      bif (base != (10 : Int)) then
        some (base != (16 : Int))
      else
      some Bool.false
    else
    some Bool.false) fun b1 =>
  bif b1 then
    some (([] : List UInt8), Bool.false, ())
  else
  Option.bind (L24_5 (n + 2) s base ([] : List Int) s (len s) (0 : Int)) fun y22 =>
  match y22 with
    | .inl y23 =>
      bif (y23.1.2.1 == (10 : Int)) then
        Option.bind (of (n + 2) y23.1.1) fun y25 =>
        Option.bind (text n y25.1) fun y26 =>
        some (y26.1, Bool.true, ())
      else
      Option.bind (text n y23.1.2.2.1) fun y27 =>
      some (y27.1, Bool.true, ())
    | .inr y24 =>
      some (y24.1.1, y24.1.2.1, ())
noncomputable def plain_it : FnIt := ⟨24, [(false, .str), (false, (.int .i64))], [(false, .str), (false, .bool)], 4, fun n x => plain n x.1 x.2.1⟩
theorem plain_ok (n : Nat) : FnOK Go.Proofs.Tryd.prog hint shT plain_it n :=
  FnOK.of (hk := fun β => (Known.mk [text_it, of_it] [L24_5_it]).hk β) (sh := shT) (fun m _ => KnownOK.hook (((KnownOK.nil.loop L24_5_ok L24_5_T_ok).fn of_ok).fn text_ok) m) (fun x => by kernel_rfl)

noncomputable def int (n : Nat) (s : List UInt8) : Option ((Bool × (List UInt8 × (Int × Int))) × (Bool × Unit)) :=
  Option.bind (cutPrefix (n + 2) s ([(48 : UInt8), (111 : UInt8)] : List UInt8)) fun y0 =>
  bif y0.2.1 then
    Option.bind (plain n y0.1 (8 : Int)) fun y1 =>
    bif (!y1.2.1) then
      some ((Bool.false, (([] : List UInt8), ((0 : Int), (0 : Int)))), Bool.false, ())
    else
    Option.bind (whole (n + 1) Bool.false y1.1 (0 : Int)) fun y2 =>
    bif y2.1.1 then
      some (((!(y2.1.2.1 == ([(48 : UInt8)] : List UInt8))), (y2.1.2.1, (y2.1.2.2.1, y2.1.2.2.2))), Bool.true, ())
    else
    some ((Bool.false, (y2.1.2.1, (y2.1.2.2.1, y2.1.2.2.2))), Bool.true, ())
  else
  Option.bind (cutPrefix (n + 2) s ([(48 : UInt8), (120 : UInt8)] : List UInt8)) fun y3 =>
  bif y3.2.1 then
    Option.bind (plain n y3.1 (16 : Int)) fun y4 =>
    bif (!y4.2.1) then
      some ((Bool.false, (([] : List UInt8), ((0 : Int), (0 : Int)))), Bool.false, ())
    else
    Option.bind (whole (n + 1) Bool.false y4.1 (0 : Int)) fun y5 =>
    bif y5.1.1 then
      some (((!(y5.1.2.1 == ([(48 : UInt8)] : List UInt8))), (y5.1.2.1, (y5.1.2.2.1, y5.1.2.2.2))), Bool.true, ())
    else
    some ((Bool.false, (y5.1.2.1, (y5.1.2.2.1, y5.1.2.2.2))), Bool.true, ())
  else
  Option.bind (signed (n + 1) s) fun y6 =>
  Option.bind (plain n y6.1 (10 : Int)) fun y7 =>
  bif (!y7.2.1) then
    some ((Bool.false, (([] : List UInt8), ((0 : Int), (0 : Int)))), Bool.false, ())
  else
  Option.bind (whole (n + 1) y6.2.1 y7.1 (0 : Int)) fun y8 =>
  bif y8.1.1 then
    some (((!(y8.1.2.1 == ([(48 : UInt8)] : List UInt8))), (y8.1.2.1, (y8.1.2.2.1, y8.1.2.2.2))), Bool.true, ())
  else
  some ((Bool.false, (y8.1.2.1, (y8.1.2.2.1, y8.1.2.2.2))), Bool.true, ())
noncomputable def int_it : FnIt := ⟨16, [(false, .str)], [(true, (.cons .bool (.cons .str (.cons (.int .i64) (.int .i64))))), (false, .bool)], 5, fun n x => int n x.1⟩
theorem int_ok (n : Nat) : FnOK Go.Proofs.Tryd.prog hint shT int_it n :=
  FnOK.of (hk := fun β => (Known.mk [signed_it, whole_it, plain_it, cutPrefix_it] []).hk β) (sh := shT) (fun m _ => KnownOK.hook ((((KnownOK.nil.fn cutPrefix_ok).fn plain_ok).fn whole_ok).fn signed_ok) m) (fun x => by kernel_rfl)


end Go.Proofs.YtbkdijjliabfdaaDoor

/- Plain functions for the program's. -/
namespace Go.Proofs.YtbkdijjliabfdaaDoor
open Go Go.Iv Go.Gv
set_option maxRecDepth 100000
set_option linter.unusedVariables false
noncomputable def L55_10_Xexit0 : Tm := ⟨[(5, .one (.str)), (6, .one (.int .i64))], [], 64, 64, 1000⟩
noncomputable def L55_10_T : Tm := ⟨[(5, .one (.str)), (6, .one (.int .i64)), (47, .one (.lst .byte)), (48, .one (.int .i64)), (49, .one (.int .i64))], [], 64, 64, 1000⟩
noncomputable def L55_10 : Nat → (List UInt8) → Int → (List UInt8) → Int → Int → Option (((List UInt8) × (Int × Unit)) × Unit)
  | 0, _, _, _, _, _ => none
  | n + 1, t5, t6, t47, t48, t49 =>
    bif (Go.Iv.ilt t49 t48) then
      bif (Go.Iv.ile (0 : Int) t49) then
      Option.bind (t47[(Int.toNat t49)]?) fun x14 =>
      bif (Nat.blt (UInt8.toNat (9 : UInt8)) (UInt8.toNat (x14 - (48 : UInt8)))) then
        none
      else
      L55_10 n t5 (Go.IntKind.wrap Go.IntKind.i64 ((Go.IntKind.wrap Go.IntKind.i64 (t6 * (10 : Int))) + (Go.IntKind.wrap Go.IntKind.i64 (ub (x14 - (48 : UInt8)))))) t47 t48 (Go.IntKind.wrap Go.IntKind.i64 (t49 + (1 : Int)))
      else none
    else
    some ((t5, (t6, ())), ())
noncomputable def L55_10_it : LoopIt := ⟨55, 10, none, L55_10_T, [(.exit 0, L55_10_Xexit0)], 0, fun n x => L55_10 n x.1.1 x.1.2.1 x.1.2.2.1 x.1.2.2.2.1 x.1.2.2.2.2.1⟩
theorem L55_10_Xexit0_ok : L55_10_Xexit0.ok Go.Proofs.Tryd.prog hint := by
  intro p hp
  cases hp
theorem L55_10_T_ok : L55_10_T.ok Go.Proofs.Tryd.prog hint := by
  intro p hp
  cases hp
theorem L55_10_ok : ∀ n, LoopOK Go.Proofs.Tryd.prog hint shT L55_10_it n :=
  LoopOK.of (hk := fun β => (Known.mk [] []).hk β) (sh := shT) (OneLoop.of (by kernel_rfl)) L55_10_T_ok ⟨⟨L55_10_Xexit0_ok, Nat.le_refl _, Nat.le_refl _⟩, trivial⟩ (fun m => KnownOK.hook KnownOK.nil m)
    (fun _ => by kernel_rfl) (fun m x => by kernel_rfl)

noncomputable def L72_36_Xexit3 : Tm := ⟨[(9, .one (.str)), (12, .one (.bool)), (13, .one (.int .u64))], [], 64, 64, 1000⟩
noncomputable def L72_36_T : Tm := ⟨[(1, .one (.int .i64)), (8, .one (.bool)), (9, .one (.str)), (10, .one (.int .u64)), (11, .one (.int .u64)), (12, .one (.bool)), (13, .one (.int .u64)), (99, .one (.lst .byte)), (100, .one (.int .i64)), (101, .one (.int .i64))], [], 64, 64, 1000⟩
noncomputable def L72_36 : Nat → Int → Bool → (List UInt8) → Int → Int → Bool → Int → (List UInt8) → Int → Int → Option (((List UInt8) × (Bool × (Int × Unit))) × Unit)
  | 0, _, _, _, _, _, _, _, _, _, _ => none
  | n + 1, t1, t8, t9, t10, t11, t12, t13, t99, t100, t101 =>
    bif (Go.Iv.ilt t101 t100) then
      bif (Go.Iv.ile (0 : Int) t101) then
      Option.bind (t99[(Int.toNat t101)]?) fun x39 =>
      Option.bind (bif (x39 == (95 : UInt8)) then
          some t8
        else
        some Bool.false) fun b41 =>
      bif b41 then
        L72_36 n t1 t8 t9 t10 t11 Bool.true t13 t99 t100 (Go.IntKind.wrap Go.IntKind.i64 (t101 + (1 : Int)))
      else
      Option.bind (bif (Nat.ble (UInt8.toNat (48 : UInt8)) (UInt8.toNat x39)) then
          some (Nat.ble (UInt8.toNat x39) (UInt8.toNat (57 : UInt8)))
        else
        some Bool.false) fun b43 =>
      bif b43 then
        bif (Nat.ble (UInt8.toNat (UInt8.ofNat (Int.toNat (Go.IntKind.wrap Go.IntKind.u8 t1)))) (UInt8.toNat (x39 - (48 : UInt8)))) then
          none
        else
        bif (Go.Iv.ile t10 t13) then
          none
        else
        Option.bind (bif (Go.Iv.ilt (Go.IntKind.wrap Go.IntKind.u64 ((Go.IntKind.wrap Go.IntKind.u64 (t13 * (Go.IntKind.wrap Go.IntKind.u64 t1))) + (Go.IntKind.wrap Go.IntKind.u64 (ub (x39 - (48 : UInt8)))))) (Go.IntKind.wrap Go.IntKind.u64 (t13 * (Go.IntKind.wrap Go.IntKind.u64 t1)))) then
            some Bool.true
          else
          some (Go.Iv.ilt t11 (Go.IntKind.wrap Go.IntKind.u64 ((Go.IntKind.wrap Go.IntKind.u64 (t13 * (Go.IntKind.wrap Go.IntKind.u64 t1))) + (Go.IntKind.wrap Go.IntKind.u64 (ub (x39 - (48 : UInt8)))))))) fun b45 =>
        bif b45 then
          none
        else
        L72_36 n t1 t8 t9 t10 t11 t12 (Go.IntKind.wrap Go.IntKind.u64 ((Go.IntKind.wrap Go.IntKind.u64 (t13 * (Go.IntKind.wrap Go.IntKind.u64 t1))) + (Go.IntKind.wrap Go.IntKind.u64 (ub (x39 - (48 : UInt8)))))) t99 t100 (Go.IntKind.wrap Go.IntKind.i64 (t101 + (1 : Int)))
      else
      bif (Nat.ble (UInt8.toNat (97 : UInt8)) (UInt8.toNat (x39 ||| (32 : UInt8)))) then
        bif (Nat.ble (UInt8.toNat (x39 ||| (32 : UInt8))) (UInt8.toNat (122 : UInt8))) then
          bif (Nat.ble (UInt8.toNat (UInt8.ofNat (Int.toNat (Go.IntKind.wrap Go.IntKind.u8 t1)))) (UInt8.toNat (((x39 ||| (32 : UInt8)) - (97 : UInt8)) + (10 : UInt8)))) then
            none
          else
          bif (Go.Iv.ile t10 t13) then
            none
          else
          Option.bind (bif (Go.Iv.ilt (Go.IntKind.wrap Go.IntKind.u64 ((Go.IntKind.wrap Go.IntKind.u64 (t13 * (Go.IntKind.wrap Go.IntKind.u64 t1))) + (Go.IntKind.wrap Go.IntKind.u64 (ub (((x39 ||| (32 : UInt8)) - (97 : UInt8)) + (10 : UInt8)))))) (Go.IntKind.wrap Go.IntKind.u64 (t13 * (Go.IntKind.wrap Go.IntKind.u64 t1)))) then
              some Bool.true
            else
            some (Go.Iv.ilt t11 (Go.IntKind.wrap Go.IntKind.u64 ((Go.IntKind.wrap Go.IntKind.u64 (t13 * (Go.IntKind.wrap Go.IntKind.u64 t1))) + (Go.IntKind.wrap Go.IntKind.u64 (ub (((x39 ||| (32 : UInt8)) - (97 : UInt8)) + (10 : UInt8)))))))) fun b47 =>
          bif b47 then
            none
          else
          L72_36 n t1 t8 t9 t10 t11 t12 (Go.IntKind.wrap Go.IntKind.u64 ((Go.IntKind.wrap Go.IntKind.u64 (t13 * (Go.IntKind.wrap Go.IntKind.u64 t1))) + (Go.IntKind.wrap Go.IntKind.u64 (ub (((x39 ||| (32 : UInt8)) - (97 : UInt8)) + (10 : UInt8)))))) t99 t100 (Go.IntKind.wrap Go.IntKind.i64 (t101 + (1 : Int)))
        else
        none
      else
      none
      else none
    else
    some ((t9, (t12, (t13, ()))), ())
noncomputable def L72_36_it : LoopIt := ⟨72, 36, none, L72_36_T, [(.exit 3, L72_36_Xexit3)], 1, fun n x => L72_36 n x.1.1 x.1.2.1 x.1.2.2.1 x.1.2.2.2.1 x.1.2.2.2.2.1 x.1.2.2.2.2.2.1 x.1.2.2.2.2.2.2.1 x.1.2.2.2.2.2.2.2.1 x.1.2.2.2.2.2.2.2.2.1 x.1.2.2.2.2.2.2.2.2.2.1⟩
theorem L72_36_Xexit3_ok : L72_36_Xexit3.ok Go.Proofs.Tryd.prog hint := by
  intro p hp
  cases hp
theorem L72_36_T_ok : L72_36_T.ok Go.Proofs.Tryd.prog hint := by
  intro p hp
  cases hp
theorem L72_36_ok : ∀ n, LoopOK Go.Proofs.Tryd.prog hint shT L72_36_it n :=
  LoopOK.of (hk := fun β => (Known.mk [] []).hk β) (sh := shT) (OneLoop.of (by kernel_rfl)) L72_36_T_ok ⟨⟨L72_36_Xexit3_ok, Nat.le_refl _, Nat.le_refl _⟩, trivial⟩ (fun m => KnownOK.hook KnownOK.nil m)
    (fun _ => by kernel_rfl) (fun m x => by kernel_rfl)

noncomputable def L81_10_Xexit0 : Tm := ⟨[(3, .one (.int .i32))], [], 64, 64, 2001⟩
noncomputable def L81_10_Xret : Tm := ⟨[(2, .one (.bool))], [], 64, 64, 2001⟩
noncomputable def L81_10_T : Tm := ⟨[(0, .one (.str)), (3, .one (.int .i32)), (4, .one (.int .i64)), (5, .one (.bool))], [], 64, 64, 2001⟩
noncomputable def L81_10 : Nat → (List UInt8) → Int → Int → Bool → Option (((Int × Unit) × Unit) ⊕ ((Bool × Unit) × Unit))
  | 0, _, _, _, _ => none
  | n + 1, t0, t3, t4, t5 =>
    bif (Go.Iv.ilt t4 (len t0)) then
      bif (Go.Iv.ile (0 : Int) t4) then
      Option.bind (t0[(Int.toNat t4)]?) fun x80 =>
      bif (Nat.ble (UInt8.toNat (48 : UInt8)) (UInt8.toNat x80)) then
        bif (Go.Iv.ile (0 : Int) t4) then
        Option.bind (t0[(Int.toNat t4)]?) fun x81 =>
        bif (Nat.ble (UInt8.toNat x81) (UInt8.toNat (57 : UInt8))) then
          L81_10 n t0 (48 : Int) (Go.IntKind.wrap Go.IntKind.i64 (t4 + (1 : Int))) t5
        else
        bif t5 then
          bif (Go.Iv.ile (0 : Int) t4) then
          Option.bind (t0[(Int.toNat t4)]?) fun x82 =>
          bif (Nat.ble (UInt8.toNat (97 : UInt8)) (UInt8.toNat (x82 ||| (32 : UInt8)))) then
            bif (Go.Iv.ile (0 : Int) t4) then
            Option.bind (t0[(Int.toNat t4)]?) fun x83 =>
            bif (Nat.ble (UInt8.toNat (x83 ||| (32 : UInt8))) (UInt8.toNat (102 : UInt8))) then
              L81_10 n t0 (48 : Int) (Go.IntKind.wrap Go.IntKind.i64 (t4 + (1 : Int))) t5
            else
            bif (Go.Iv.ile (0 : Int) t4) then
            Option.bind (t0[(Int.toNat t4)]?) fun x84 =>
            bif (x84 == (95 : UInt8)) then
              bif (t3 != (48 : Int)) then
                some (.inr ((Bool.false, ()), ()))
              else
              L81_10 n t0 (95 : Int) (Go.IntKind.wrap Go.IntKind.i64 (t4 + (1 : Int))) t5
            else
            bif (t3 == (95 : Int)) then
              some (.inr ((Bool.false, ()), ()))
            else
            L81_10 n t0 (33 : Int) (Go.IntKind.wrap Go.IntKind.i64 (t4 + (1 : Int))) t5
            else none
            else none
          else
          bif (Go.Iv.ile (0 : Int) t4) then
          Option.bind (t0[(Int.toNat t4)]?) fun x85 =>
          bif (x85 == (95 : UInt8)) then
            bif (t3 != (48 : Int)) then
              some (.inr ((Bool.false, ()), ()))
            else
            L81_10 n t0 (95 : Int) (Go.IntKind.wrap Go.IntKind.i64 (t4 + (1 : Int))) t5
          else
          bif (t3 == (95 : Int)) then
            some (.inr ((Bool.false, ()), ()))
          else
          L81_10 n t0 (33 : Int) (Go.IntKind.wrap Go.IntKind.i64 (t4 + (1 : Int))) t5
          else none
          else none
        else
        bif (Go.Iv.ile (0 : Int) t4) then
        Option.bind (t0[(Int.toNat t4)]?) fun x86 =>
        bif (x86 == (95 : UInt8)) then
          bif (t3 != (48 : Int)) then
            some (.inr ((Bool.false, ()), ()))
          else
          L81_10 n t0 (95 : Int) (Go.IntKind.wrap Go.IntKind.i64 (t4 + (1 : Int))) t5
        else
        bif (t3 == (95 : Int)) then
          some (.inr ((Bool.false, ()), ()))
        else
        L81_10 n t0 (33 : Int) (Go.IntKind.wrap Go.IntKind.i64 (t4 + (1 : Int))) t5
        else none
        else none
      else
      bif t5 then
        bif (Go.Iv.ile (0 : Int) t4) then
        Option.bind (t0[(Int.toNat t4)]?) fun x87 =>
        bif (Nat.ble (UInt8.toNat (97 : UInt8)) (UInt8.toNat (x87 ||| (32 : UInt8)))) then
          bif (Go.Iv.ile (0 : Int) t4) then
          Option.bind (t0[(Int.toNat t4)]?) fun x88 =>
          bif (Nat.ble (UInt8.toNat (x88 ||| (32 : UInt8))) (UInt8.toNat (102 : UInt8))) then
            L81_10 n t0 (48 : Int) (Go.IntKind.wrap Go.IntKind.i64 (t4 + (1 : Int))) t5
          else
          bif (Go.Iv.ile (0 : Int) t4) then
          Option.bind (t0[(Int.toNat t4)]?) fun x89 =>
          bif (x89 == (95 : UInt8)) then
            bif (t3 != (48 : Int)) then
              some (.inr ((Bool.false, ()), ()))
            else
            L81_10 n t0 (95 : Int) (Go.IntKind.wrap Go.IntKind.i64 (t4 + (1 : Int))) t5
          else
          bif (t3 == (95 : Int)) then
            some (.inr ((Bool.false, ()), ()))
          else
          L81_10 n t0 (33 : Int) (Go.IntKind.wrap Go.IntKind.i64 (t4 + (1 : Int))) t5
          else none
          else none
        else
        bif (Go.Iv.ile (0 : Int) t4) then
        Option.bind (t0[(Int.toNat t4)]?) fun x90 =>
        bif (x90 == (95 : UInt8)) then
          bif (t3 != (48 : Int)) then
            some (.inr ((Bool.false, ()), ()))
          else
          L81_10 n t0 (95 : Int) (Go.IntKind.wrap Go.IntKind.i64 (t4 + (1 : Int))) t5
        else
        bif (t3 == (95 : Int)) then
          some (.inr ((Bool.false, ()), ()))
        else
        L81_10 n t0 (33 : Int) (Go.IntKind.wrap Go.IntKind.i64 (t4 + (1 : Int))) t5
        else none
        else none
      else
      bif (Go.Iv.ile (0 : Int) t4) then
      Option.bind (t0[(Int.toNat t4)]?) fun x91 =>
      bif (x91 == (95 : UInt8)) then
        bif (t3 != (48 : Int)) then
          some (.inr ((Bool.false, ()), ()))
        else
        L81_10 n t0 (95 : Int) (Go.IntKind.wrap Go.IntKind.i64 (t4 + (1 : Int))) t5
      else
      bif (t3 == (95 : Int)) then
        some (.inr ((Bool.false, ()), ()))
      else
      L81_10 n t0 (33 : Int) (Go.IntKind.wrap Go.IntKind.i64 (t4 + (1 : Int))) t5
      else none
      else none
    else
    some (.inl ((t3, ()), ()))
noncomputable def L81_10_it : LoopIt := ⟨81, 10, none, L81_10_T, [(.exit 0, L81_10_Xexit0), (.ret, L81_10_Xret)], 1, fun n x => L81_10 n x.1.1 x.1.2.1 x.1.2.2.1 x.1.2.2.2.1⟩
theorem L81_10_Xexit0_ok : L81_10_Xexit0.ok Go.Proofs.Tryd.prog hint := by
  intro p hp
  cases hp
theorem L81_10_Xret_ok : L81_10_Xret.ok Go.Proofs.Tryd.prog hint := by
  intro p hp
  cases hp
theorem L81_10_T_ok : L81_10_T.ok Go.Proofs.Tryd.prog hint := by
  intro p hp
  cases hp
theorem L81_10_ok : ∀ n, LoopOK Go.Proofs.Tryd.prog hint shT L81_10_it n :=
  LoopOK.of (hk := fun β => (Known.mk [] []).hk β) (sh := shT) (OneLoop.of (by kernel_rfl)) L81_10_T_ok ⟨⟨L81_10_Xexit0_ok, Nat.le_refl _, Nat.le_refl _⟩, ⟨L81_10_Xret_ok, Nat.le_refl _, Nat.le_refl _⟩, trivial⟩ (fun m => KnownOK.hook KnownOK.nil m)
    (fun _ => by kernel_rfl) (fun m x => by kernel_rfl)

noncomputable def exponent (n : Nat) (s : List UInt8) : Option (Int × (Bool × Unit)) :=
  bif (s == ([] : List UInt8)) then
    some ((0 : Int), Bool.true, ())
  else
  Option.bind (Option.bind (s[0]?) fun x1 =>
    bif (x1 != (101 : UInt8)) then
      Option.bind (s[0]?) fun x2 =>
      some (x2 != (69 : UInt8))
    else
    some Bool.false) fun b3 =>
  bif b3 then
    some ((0 : Int), Bool.false, ())
  else
  bif (Go.Iv.ile (1 : Int) (len s)) then
  Option.bind (signed (n + 2) (List.take ((List.length s) - 1) (List.drop 1 s))) fun y4 =>
  bif (y4.1 == ([] : List UInt8)) then
    some ((0 : Int), Bool.false, ())
  else
  bif (Go.Iv.ilt (9 : Int) (len y4.1)) then
    some ((0 : Int), Bool.false, ())
  else
  Option.bind (count (n + 4) y4.1) fun y5 =>
  bif (y5.1 != (len y4.1)) then
    some ((0 : Int), Bool.false, ())
  else
  Option.bind (bif (Go.Iv.ilt (0 : Int) (len y4.1)) then
      some (Go.Iv.ilt (len y4.1) (19 : Int))
    else
    some Bool.false) fun b7 =>
  bif b7 then
    Option.bind (Option.bind (y4.1[0]?) fun x9 =>
      bif (x9 == (45 : UInt8)) then
        some Bool.true
      else
      Option.bind (y4.1[0]?) fun x10 =>
      some (x10 == (43 : UInt8))) fun b11 =>
    bif b11 then
      bif (Go.Iv.ile (1 : Int) (len y4.1)) then
      bif (Go.Iv.ilt (len (List.take ((List.length y4.1) - 1) (List.drop 1 y4.1))) (1 : Int)) then
        none
      else
      Option.bind (L55_10 (n + 4) y4.1 (0 : Int) (List.take ((List.length y4.1) - 1) (List.drop 1 y4.1)) (len (List.take ((List.length y4.1) - 1) (List.drop 1 y4.1))) (0 : Int)) fun y15 =>
      Option.bind (y15.1.1[0]?) fun x16 =>
      bif (x16 == (45 : UInt8)) then
        bif y4.2.1 then
          some ((Go.IntKind.wrap Go.IntKind.i64 ((0 : Int) - (Go.IntKind.wrap Go.IntKind.i64 ((0 : Int) - y15.1.2.1)))), Bool.true, ())
        else
        some ((Go.IntKind.wrap Go.IntKind.i64 ((0 : Int) - y15.1.2.1)), Bool.true, ())
      else
      bif y4.2.1 then
        some ((Go.IntKind.wrap Go.IntKind.i64 ((0 : Int) - y15.1.2.1)), Bool.true, ())
      else
      some (y15.1.2.1, Bool.true, ())
      else none
    else
    Option.bind (L55_10 (n + 4) y4.1 (0 : Int) y4.1 (len y4.1) (0 : Int)) fun y17 =>
    Option.bind (y17.1.1[0]?) fun x18 =>
    bif (x18 == (45 : UInt8)) then
      bif y4.2.1 then
        some ((Go.IntKind.wrap Go.IntKind.i64 ((0 : Int) - (Go.IntKind.wrap Go.IntKind.i64 ((0 : Int) - y17.1.2.1)))), Bool.true, ())
      else
      some ((Go.IntKind.wrap Go.IntKind.i64 ((0 : Int) - y17.1.2.1)), Bool.true, ())
    else
    bif y4.2.1 then
      some ((Go.IntKind.wrap Go.IntKind.i64 ((0 : Int) - y17.1.2.1)), Bool.true, ())
    else
    some (y17.1.2.1, Bool.true, ())
  else
  bif (y4.1 == ([] : List UInt8)) then
    none
  else
  Option.bind (y4.1[0]?) fun x19 =>
  bif (x19 == (43 : UInt8)) then
    bif (Go.Iv.ile (1 : Int) (len y4.1)) then
    bif ((List.take ((List.length y4.1) - 1) (List.drop 1 y4.1)) == ([] : List UInt8)) then
      none
    else
    Option.bind (L72_36 (n + 1) (10 : Int) Bool.false (List.take ((List.length y4.1) - 1) (List.drop 1 y4.1)) (1844674407370955162 : Int) (18446744073709551615 : Int) Bool.false (0 : Int) (List.take ((List.length y4.1) - 1) (List.drop 1 y4.1)) (len (List.take ((List.length y4.1) - 1) (List.drop 1 y4.1))) (0 : Int)) fun y48 =>
    bif y48.1.2.1 then
      Option.bind (bif (Go.Iv.ile (1 : Int) (len y48.1.1)) then
          Option.bind (y48.1.1[0]?) fun x50 =>
          bif (x50 == (45 : UInt8)) then
            some Bool.true
          else
          Option.bind (y48.1.1[0]?) fun x51 =>
          some (x51 == (43 : UInt8))
        else
        some Bool.false) fun b52 =>
      bif b52 then
        bif (Go.Iv.ile (1 : Int) (len y48.1.1)) then
        bif (Go.Iv.ile (2 : Int) (len (List.take ((List.length y48.1.1) - 1) (List.drop 1 y48.1.1)))) then
          Option.bind ((List.take ((List.length y48.1.1) - 1) (List.drop 1 y48.1.1))[0]?) fun x53 =>
          bif (x53 == (48 : UInt8)) then
            Option.bind ((List.take ((List.length y48.1.1) - 1) (List.drop 1 y48.1.1))[1]?) fun x54 =>
            bif ((x54 ||| (32 : UInt8)) == (98 : UInt8)) then
              Option.bind ((List.take ((List.length y48.1.1) - 1) (List.drop 1 y48.1.1))[1]?) fun x55 =>
              Option.bind (L81_10 n (List.take ((List.length y48.1.1) - 1) (List.drop 1 y48.1.1)) (48 : Int) (2 : Int) ((x55 ||| (32 : UInt8)) == (120 : UInt8))) fun y92 =>
              match y92 with
                | .inl y93 =>
                  bif (!(y93.1.1 != (95 : Int))) then
                    none
                  else
                  bif (Go.Iv.ile (9223372036854775808 : Int) y48.1.2.2.1) then
                    none
                  else
                  bif y4.2.1 then
                    some ((Go.IntKind.wrap Go.IntKind.i64 ((0 : Int) - (Go.IntKind.wrap Go.IntKind.i64 y48.1.2.2.1))), Bool.true, ())
                  else
                  some ((Go.IntKind.wrap Go.IntKind.i64 y48.1.2.2.1), Bool.true, ())
                | .inr y94 =>
                  bif (!y94.1.1) then
                    none
                  else
                  bif (Go.Iv.ile (9223372036854775808 : Int) y48.1.2.2.1) then
                    none
                  else
                  bif y4.2.1 then
                    some ((Go.IntKind.wrap Go.IntKind.i64 ((0 : Int) - (Go.IntKind.wrap Go.IntKind.i64 y48.1.2.2.1))), Bool.true, ())
                  else
                  some ((Go.IntKind.wrap Go.IntKind.i64 y48.1.2.2.1), Bool.true, ())
            else
            Option.bind ((List.take ((List.length y48.1.1) - 1) (List.drop 1 y48.1.1))[1]?) fun x99 =>
            bif ((x99 ||| (32 : UInt8)) == (111 : UInt8)) then
              Option.bind ((List.take ((List.length y48.1.1) - 1) (List.drop 1 y48.1.1))[1]?) fun x100 =>
              Option.bind (L81_10 n (List.take ((List.length y48.1.1) - 1) (List.drop 1 y48.1.1)) (48 : Int) (2 : Int) ((x100 ||| (32 : UInt8)) == (120 : UInt8))) fun y101 =>
              match y101 with
                | .inl y102 =>
                  bif (!(y102.1.1 != (95 : Int))) then
                    none
                  else
                  bif (Go.Iv.ile (9223372036854775808 : Int) y48.1.2.2.1) then
                    none
                  else
                  bif y4.2.1 then
                    some ((Go.IntKind.wrap Go.IntKind.i64 ((0 : Int) - (Go.IntKind.wrap Go.IntKind.i64 y48.1.2.2.1))), Bool.true, ())
                  else
                  some ((Go.IntKind.wrap Go.IntKind.i64 y48.1.2.2.1), Bool.true, ())
                | .inr y103 =>
                  bif (!y103.1.1) then
                    none
                  else
                  bif (Go.Iv.ile (9223372036854775808 : Int) y48.1.2.2.1) then
                    none
                  else
                  bif y4.2.1 then
                    some ((Go.IntKind.wrap Go.IntKind.i64 ((0 : Int) - (Go.IntKind.wrap Go.IntKind.i64 y48.1.2.2.1))), Bool.true, ())
                  else
                  some ((Go.IntKind.wrap Go.IntKind.i64 y48.1.2.2.1), Bool.true, ())
            else
            Option.bind ((List.take ((List.length y48.1.1) - 1) (List.drop 1 y48.1.1))[1]?) fun x108 =>
            bif ((x108 ||| (32 : UInt8)) == (120 : UInt8)) then
              Option.bind ((List.take ((List.length y48.1.1) - 1) (List.drop 1 y48.1.1))[1]?) fun x109 =>
              Option.bind (L81_10 n (List.take ((List.length y48.1.1) - 1) (List.drop 1 y48.1.1)) (48 : Int) (2 : Int) ((x109 ||| (32 : UInt8)) == (120 : UInt8))) fun y110 =>
              match y110 with
                | .inl y111 =>
                  bif (!(y111.1.1 != (95 : Int))) then
                    none
                  else
                  bif (Go.Iv.ile (9223372036854775808 : Int) y48.1.2.2.1) then
                    none
                  else
                  bif y4.2.1 then
                    some ((Go.IntKind.wrap Go.IntKind.i64 ((0 : Int) - (Go.IntKind.wrap Go.IntKind.i64 y48.1.2.2.1))), Bool.true, ())
                  else
                  some ((Go.IntKind.wrap Go.IntKind.i64 y48.1.2.2.1), Bool.true, ())
                | .inr y112 =>
                  bif (!y112.1.1) then
                    none
                  else
                  bif (Go.Iv.ile (9223372036854775808 : Int) y48.1.2.2.1) then
                    none
                  else
                  bif y4.2.1 then
                    some ((Go.IntKind.wrap Go.IntKind.i64 ((0 : Int) - (Go.IntKind.wrap Go.IntKind.i64 y48.1.2.2.1))), Bool.true, ())
                  else
                  some ((Go.IntKind.wrap Go.IntKind.i64 y48.1.2.2.1), Bool.true, ())
            else
            Option.bind (L81_10 n (List.take ((List.length y48.1.1) - 1) (List.drop 1 y48.1.1)) (94 : Int) (0 : Int) Bool.false) fun y117 =>
            match y117 with
              | .inl y118 =>
                bif (!(y118.1.1 != (95 : Int))) then
                  none
                else
                bif (Go.Iv.ile (9223372036854775808 : Int) y48.1.2.2.1) then
                  none
                else
                bif y4.2.1 then
                  some ((Go.IntKind.wrap Go.IntKind.i64 ((0 : Int) - (Go.IntKind.wrap Go.IntKind.i64 y48.1.2.2.1))), Bool.true, ())
                else
                some ((Go.IntKind.wrap Go.IntKind.i64 y48.1.2.2.1), Bool.true, ())
              | .inr y119 =>
                bif (!y119.1.1) then
                  none
                else
                bif (Go.Iv.ile (9223372036854775808 : Int) y48.1.2.2.1) then
                  none
                else
                bif y4.2.1 then
                  some ((Go.IntKind.wrap Go.IntKind.i64 ((0 : Int) - (Go.IntKind.wrap Go.IntKind.i64 y48.1.2.2.1))), Bool.true, ())
                else
                some ((Go.IntKind.wrap Go.IntKind.i64 y48.1.2.2.1), Bool.true, ())
          else
          Option.bind (L81_10 n (List.take ((List.length y48.1.1) - 1) (List.drop 1 y48.1.1)) (94 : Int) (0 : Int) Bool.false) fun y124 =>
          match y124 with
            | .inl y125 =>
              bif (!(y125.1.1 != (95 : Int))) then
                none
              else
              bif (Go.Iv.ile (9223372036854775808 : Int) y48.1.2.2.1) then
                none
              else
              bif y4.2.1 then
                some ((Go.IntKind.wrap Go.IntKind.i64 ((0 : Int) - (Go.IntKind.wrap Go.IntKind.i64 y48.1.2.2.1))), Bool.true, ())
              else
              some ((Go.IntKind.wrap Go.IntKind.i64 y48.1.2.2.1), Bool.true, ())
            | .inr y126 =>
              bif (!y126.1.1) then
                none
              else
              bif (Go.Iv.ile (9223372036854775808 : Int) y48.1.2.2.1) then
                none
              else
              bif y4.2.1 then
                some ((Go.IntKind.wrap Go.IntKind.i64 ((0 : Int) - (Go.IntKind.wrap Go.IntKind.i64 y48.1.2.2.1))), Bool.true, ())
              else
              some ((Go.IntKind.wrap Go.IntKind.i64 y48.1.2.2.1), Bool.true, ())
        else
        Option.bind (L81_10 n (List.take ((List.length y48.1.1) - 1) (List.drop 1 y48.1.1)) (94 : Int) (0 : Int) Bool.false) fun y131 =>
        match y131 with
          | .inl y132 =>
            bif (!(y132.1.1 != (95 : Int))) then
              none
            else
            bif (Go.Iv.ile (9223372036854775808 : Int) y48.1.2.2.1) then
              none
            else
            bif y4.2.1 then
              some ((Go.IntKind.wrap Go.IntKind.i64 ((0 : Int) - (Go.IntKind.wrap Go.IntKind.i64 y48.1.2.2.1))), Bool.true, ())
            else
            some ((Go.IntKind.wrap Go.IntKind.i64 y48.1.2.2.1), Bool.true, ())
          | .inr y133 =>
            bif (!y133.1.1) then
              none
            else
            bif (Go.Iv.ile (9223372036854775808 : Int) y48.1.2.2.1) then
              none
            else
            bif y4.2.1 then
              some ((Go.IntKind.wrap Go.IntKind.i64 ((0 : Int) - (Go.IntKind.wrap Go.IntKind.i64 y48.1.2.2.1))), Bool.true, ())
            else
            some ((Go.IntKind.wrap Go.IntKind.i64 y48.1.2.2.1), Bool.true, ())
        else none
      else
      bif (Go.Iv.ile (2 : Int) (len y48.1.1)) then
        Option.bind (y48.1.1[0]?) fun x138 =>
        bif (x138 == (48 : UInt8)) then
          Option.bind (y48.1.1[1]?) fun x139 =>
          bif ((x139 ||| (32 : UInt8)) == (98 : UInt8)) then
            Option.bind (y48.1.1[1]?) fun x140 =>
            Option.bind (L81_10 n y48.1.1 (48 : Int) (2 : Int) ((x140 ||| (32 : UInt8)) == (120 : UInt8))) fun y141 =>
            match y141 with
              | .inl y142 =>
                bif (!(y142.1.1 != (95 : Int))) then
                  none
                else
                bif (Go.Iv.ile (9223372036854775808 : Int) y48.1.2.2.1) then
                  none
                else
                bif y4.2.1 then
                  some ((Go.IntKind.wrap Go.IntKind.i64 ((0 : Int) - (Go.IntKind.wrap Go.IntKind.i64 y48.1.2.2.1))), Bool.true, ())
                else
                some ((Go.IntKind.wrap Go.IntKind.i64 y48.1.2.2.1), Bool.true, ())
              | .inr y143 =>
                bif (!y143.1.1) then
                  none
                else
                bif (Go.Iv.ile (9223372036854775808 : Int) y48.1.2.2.1) then
                  none
                else
                bif y4.2.1 then
                  some ((Go.IntKind.wrap Go.IntKind.i64 ((0 : Int) - (Go.IntKind.wrap Go.IntKind.i64 y48.1.2.2.1))), Bool.true, ())
                else
                some ((Go.IntKind.wrap Go.IntKind.i64 y48.1.2.2.1), Bool.true, ())
          else
          Option.bind (y48.1.1[1]?) fun x148 =>
          bif ((x148 ||| (32 : UInt8)) == (111 : UInt8)) then
            Option.bind (y48.1.1[1]?) fun x149 =>
            Option.bind (L81_10 n y48.1.1 (48 : Int) (2 : Int) ((x149 ||| (32 : UInt8)) == (120 : UInt8))) fun y150 =>
            match y150 with
              | .inl y151 =>
                bif (!(y151.1.1 != (95 : Int))) then
                  none
                else
                bif (Go.Iv.ile (9223372036854775808 : Int) y48.1.2.2.1) then
                  none
                else
                bif y4.2.1 then
                  some ((Go.IntKind.wrap Go.IntKind.i64 ((0 : Int) - (Go.IntKind.wrap Go.IntKind.i64 y48.1.2.2.1))), Bool.true, ())
                else
                some ((Go.IntKind.wrap Go.IntKind.i64 y48.1.2.2.1), Bool.true, ())
              | .inr y152 =>
                bif (!y152.1.1) then
                  none
                else
                bif (Go.Iv.ile (9223372036854775808 : Int) y48.1.2.2.1) then
                  none
                else
                bif y4.2.1 then
                  some ((Go.IntKind.wrap Go.IntKind.i64 ((0 : Int) - (Go.IntKind.wrap Go.IntKind.i64 y48.1.2.2.1))), Bool.true, ())
                else
                some ((Go.IntKind.wrap Go.IntKind.i64 y48.1.2.2.1), Bool.true, ())
          else
          Option.bind (y48.1.1[1]?) fun x157 =>
          bif ((x157 ||| (32 : UInt8)) == (120 : UInt8)) then
            Option.bind (y48.1.1[1]?) fun x158 =>
            Option.bind (L81_10 n y48.1.1 (48 : Int) (2 : Int) ((x158 ||| (32 : UInt8)) == (120 : UInt8))) fun y159 =>
            match y159 with
              | .inl y160 =>
                bif (!(y160.1.1 != (95 : Int))) then
                  none
                else
                bif (Go.Iv.ile (9223372036854775808 : Int) y48.1.2.2.1) then
                  none
                else
                bif y4.2.1 then
                  some ((Go.IntKind.wrap Go.IntKind.i64 ((0 : Int) - (Go.IntKind.wrap Go.IntKind.i64 y48.1.2.2.1))), Bool.true, ())
                else
                some ((Go.IntKind.wrap Go.IntKind.i64 y48.1.2.2.1), Bool.true, ())
              | .inr y161 =>
                bif (!y161.1.1) then
                  none
                else
                bif (Go.Iv.ile (9223372036854775808 : Int) y48.1.2.2.1) then
                  none
                else
                bif y4.2.1 then
                  some ((Go.IntKind.wrap Go.IntKind.i64 ((0 : Int) - (Go.IntKind.wrap Go.IntKind.i64 y48.1.2.2.1))), Bool.true, ())
                else
                some ((Go.IntKind.wrap Go.IntKind.i64 y48.1.2.2.1), Bool.true, ())
          else
          Option.bind (L81_10 n y48.1.1 (94 : Int) (0 : Int) Bool.false) fun y166 =>
          match y166 with
            | .inl y167 =>
              bif (!(y167.1.1 != (95 : Int))) then
                none
              else
              bif (Go.Iv.ile (9223372036854775808 : Int) y48.1.2.2.1) then
                none
              else
              bif y4.2.1 then
                some ((Go.IntKind.wrap Go.IntKind.i64 ((0 : Int) - (Go.IntKind.wrap Go.IntKind.i64 y48.1.2.2.1))), Bool.true, ())
              else
              some ((Go.IntKind.wrap Go.IntKind.i64 y48.1.2.2.1), Bool.true, ())
            | .inr y168 =>
              bif (!y168.1.1) then
                none
              else
              bif (Go.Iv.ile (9223372036854775808 : Int) y48.1.2.2.1) then
                none
              else
              bif y4.2.1 then
                some ((Go.IntKind.wrap Go.IntKind.i64 ((0 : Int) - (Go.IntKind.wrap Go.IntKind.i64 y48.1.2.2.1))), Bool.true, ())
              else
              some ((Go.IntKind.wrap Go.IntKind.i64 y48.1.2.2.1), Bool.true, ())
        else
        Option.bind (L81_10 n y48.1.1 (94 : Int) (0 : Int) Bool.false) fun y173 =>
        match y173 with
          | .inl y174 =>
            bif (!(y174.1.1 != (95 : Int))) then
              none
            else
            bif (Go.Iv.ile (9223372036854775808 : Int) y48.1.2.2.1) then
              none
            else
            bif y4.2.1 then
              some ((Go.IntKind.wrap Go.IntKind.i64 ((0 : Int) - (Go.IntKind.wrap Go.IntKind.i64 y48.1.2.2.1))), Bool.true, ())
            else
            some ((Go.IntKind.wrap Go.IntKind.i64 y48.1.2.2.1), Bool.true, ())
          | .inr y175 =>
            bif (!y175.1.1) then
              none
            else
            bif (Go.Iv.ile (9223372036854775808 : Int) y48.1.2.2.1) then
              none
            else
            bif y4.2.1 then
              some ((Go.IntKind.wrap Go.IntKind.i64 ((0 : Int) - (Go.IntKind.wrap Go.IntKind.i64 y48.1.2.2.1))), Bool.true, ())
            else
            some ((Go.IntKind.wrap Go.IntKind.i64 y48.1.2.2.1), Bool.true, ())
      else
      Option.bind (L81_10 n y48.1.1 (94 : Int) (0 : Int) Bool.false) fun y180 =>
      match y180 with
        | .inl y181 =>
          bif (!(y181.1.1 != (95 : Int))) then
            none
          else
          bif (Go.Iv.ile (9223372036854775808 : Int) y48.1.2.2.1) then
            none
          else
          bif y4.2.1 then
            some ((Go.IntKind.wrap Go.IntKind.i64 ((0 : Int) - (Go.IntKind.wrap Go.IntKind.i64 y48.1.2.2.1))), Bool.true, ())
          else
          some ((Go.IntKind.wrap Go.IntKind.i64 y48.1.2.2.1), Bool.true, ())
        | .inr y182 =>
          bif (!y182.1.1) then
            none
          else
          bif (Go.Iv.ile (9223372036854775808 : Int) y48.1.2.2.1) then
            none
          else
          bif y4.2.1 then
            some ((Go.IntKind.wrap Go.IntKind.i64 ((0 : Int) - (Go.IntKind.wrap Go.IntKind.i64 y48.1.2.2.1))), Bool.true, ())
          else
          some ((Go.IntKind.wrap Go.IntKind.i64 y48.1.2.2.1), Bool.true, ())
    else
    bif (Go.Iv.ile (9223372036854775808 : Int) y48.1.2.2.1) then
      none
    else
    bif y4.2.1 then
      some ((Go.IntKind.wrap Go.IntKind.i64 ((0 : Int) - (Go.IntKind.wrap Go.IntKind.i64 y48.1.2.2.1))), Bool.true, ())
    else
    some ((Go.IntKind.wrap Go.IntKind.i64 y48.1.2.2.1), Bool.true, ())
    else none
  else
  bif (x19 == (45 : UInt8)) then
    bif (Go.Iv.ile (1 : Int) (len y4.1)) then
    bif ((List.take ((List.length y4.1) - 1) (List.drop 1 y4.1)) == ([] : List UInt8)) then
      none
    else
    Option.bind (L72_36 (n + 1) (10 : Int) Bool.false (List.take ((List.length y4.1) - 1) (List.drop 1 y4.1)) (1844674407370955162 : Int) (18446744073709551615 : Int) Bool.false (0 : Int) (List.take ((List.length y4.1) - 1) (List.drop 1 y4.1)) (len (List.take ((List.length y4.1) - 1) (List.drop 1 y4.1))) (0 : Int)) fun y190 =>
    bif y190.1.2.1 then
      Option.bind (bif (Go.Iv.ile (1 : Int) (len y190.1.1)) then
          Option.bind (y190.1.1[0]?) fun x192 =>
          bif (x192 == (45 : UInt8)) then
            some Bool.true
          else
          Option.bind (y190.1.1[0]?) fun x193 =>
          some (x193 == (43 : UInt8))
        else
        some Bool.false) fun b194 =>
      bif b194 then
        bif (Go.Iv.ile (1 : Int) (len y190.1.1)) then
        bif (Go.Iv.ile (2 : Int) (len (List.take ((List.length y190.1.1) - 1) (List.drop 1 y190.1.1)))) then
          Option.bind ((List.take ((List.length y190.1.1) - 1) (List.drop 1 y190.1.1))[0]?) fun x195 =>
          bif (x195 == (48 : UInt8)) then
            Option.bind ((List.take ((List.length y190.1.1) - 1) (List.drop 1 y190.1.1))[1]?) fun x196 =>
            bif ((x196 ||| (32 : UInt8)) == (98 : UInt8)) then
              Option.bind ((List.take ((List.length y190.1.1) - 1) (List.drop 1 y190.1.1))[1]?) fun x197 =>
              Option.bind (L81_10 n (List.take ((List.length y190.1.1) - 1) (List.drop 1 y190.1.1)) (48 : Int) (2 : Int) ((x197 ||| (32 : UInt8)) == (120 : UInt8))) fun y198 =>
              match y198 with
                | .inl y199 =>
                  bif (!(y199.1.1 != (95 : Int))) then
                    none
                  else
                  bif (Go.Iv.ilt (9223372036854775808 : Int) y190.1.2.2.1) then
                    none
                  else
                  bif y4.2.1 then
                    some ((Go.IntKind.wrap Go.IntKind.i64 ((0 : Int) - (Go.IntKind.wrap Go.IntKind.i64 ((0 : Int) - (Go.IntKind.wrap Go.IntKind.i64 y190.1.2.2.1))))), Bool.true, ())
                  else
                  some ((Go.IntKind.wrap Go.IntKind.i64 ((0 : Int) - (Go.IntKind.wrap Go.IntKind.i64 y190.1.2.2.1))), Bool.true, ())
                | .inr y200 =>
                  bif (!y200.1.1) then
                    none
                  else
                  bif (Go.Iv.ilt (9223372036854775808 : Int) y190.1.2.2.1) then
                    none
                  else
                  bif y4.2.1 then
                    some ((Go.IntKind.wrap Go.IntKind.i64 ((0 : Int) - (Go.IntKind.wrap Go.IntKind.i64 ((0 : Int) - (Go.IntKind.wrap Go.IntKind.i64 y190.1.2.2.1))))), Bool.true, ())
                  else
                  some ((Go.IntKind.wrap Go.IntKind.i64 ((0 : Int) - (Go.IntKind.wrap Go.IntKind.i64 y190.1.2.2.1))), Bool.true, ())
            else
            Option.bind ((List.take ((List.length y190.1.1) - 1) (List.drop 1 y190.1.1))[1]?) fun x205 =>
            bif ((x205 ||| (32 : UInt8)) == (111 : UInt8)) then
              Option.bind ((List.take ((List.length y190.1.1) - 1) (List.drop 1 y190.1.1))[1]?) fun x206 =>
              Option.bind (L81_10 n (List.take ((List.length y190.1.1) - 1) (List.drop 1 y190.1.1)) (48 : Int) (2 : Int) ((x206 ||| (32 : UInt8)) == (120 : UInt8))) fun y207 =>
              match y207 with
                | .inl y208 =>
                  bif (!(y208.1.1 != (95 : Int))) then
                    none
                  else
                  bif (Go.Iv.ilt (9223372036854775808 : Int) y190.1.2.2.1) then
                    none
                  else
                  bif y4.2.1 then
                    some ((Go.IntKind.wrap Go.IntKind.i64 ((0 : Int) - (Go.IntKind.wrap Go.IntKind.i64 ((0 : Int) - (Go.IntKind.wrap Go.IntKind.i64 y190.1.2.2.1))))), Bool.true, ())
                  else
                  some ((Go.IntKind.wrap Go.IntKind.i64 ((0 : Int) - (Go.IntKind.wrap Go.IntKind.i64 y190.1.2.2.1))), Bool.true, ())
                | .inr y209 =>
                  bif (!y209.1.1) then
                    none
                  else
                  bif (Go.Iv.ilt (9223372036854775808 : Int) y190.1.2.2.1) then
                    none
                  else
                  bif y4.2.1 then
                    some ((Go.IntKind.wrap Go.IntKind.i64 ((0 : Int) - (Go.IntKind.wrap Go.IntKind.i64 ((0 : Int) - (Go.IntKind.wrap Go.IntKind.i64 y190.1.2.2.1))))), Bool.true, ())
                  else
                  some ((Go.IntKind.wrap Go.IntKind.i64 ((0 : Int) - (Go.IntKind.wrap Go.IntKind.i64 y190.1.2.2.1))), Bool.true, ())
            else
            Option.bind ((List.take ((List.length y190.1.1) - 1) (List.drop 1 y190.1.1))[1]?) fun x214 =>
            bif ((x214 ||| (32 : UInt8)) == (120 : UInt8)) then
              Option.bind ((List.take ((List.length y190.1.1) - 1) (List.drop 1 y190.1.1))[1]?) fun x215 =>
              Option.bind (L81_10 n (List.take ((List.length y190.1.1) - 1) (List.drop 1 y190.1.1)) (48 : Int) (2 : Int) ((x215 ||| (32 : UInt8)) == (120 : UInt8))) fun y216 =>
              match y216 with
                | .inl y217 =>
                  bif (!(y217.1.1 != (95 : Int))) then
                    none
                  else
                  bif (Go.Iv.ilt (9223372036854775808 : Int) y190.1.2.2.1) then
                    none
                  else
                  bif y4.2.1 then
                    some ((Go.IntKind.wrap Go.IntKind.i64 ((0 : Int) - (Go.IntKind.wrap Go.IntKind.i64 ((0 : Int) - (Go.IntKind.wrap Go.IntKind.i64 y190.1.2.2.1))))), Bool.true, ())
                  else
                  some ((Go.IntKind.wrap Go.IntKind.i64 ((0 : Int) - (Go.IntKind.wrap Go.IntKind.i64 y190.1.2.2.1))), Bool.true, ())
                | .inr y218 =>
                  bif (!y218.1.1) then
                    none
                  else
                  bif (Go.Iv.ilt (9223372036854775808 : Int) y190.1.2.2.1) then
                    none
                  else
                  bif y4.2.1 then
                    some ((Go.IntKind.wrap Go.IntKind.i64 ((0 : Int) - (Go.IntKind.wrap Go.IntKind.i64 ((0 : Int) - (Go.IntKind.wrap Go.IntKind.i64 y190.1.2.2.1))))), Bool.true, ())
                  else
                  some ((Go.IntKind.wrap Go.IntKind.i64 ((0 : Int) - (Go.IntKind.wrap Go.IntKind.i64 y190.1.2.2.1))), Bool.true, ())
            else
            Option.bind (L81_10 n (List.take ((List.length y190.1.1) - 1) (List.drop 1 y190.1.1)) (94 : Int) (0 : Int) Bool.false) fun y223 =>
            match y223 with
              | .inl y224 =>
                bif (!(y224.1.1 != (95 : Int))) then
                  none
                else
                bif (Go.Iv.ilt (9223372036854775808 : Int) y190.1.2.2.1) then
                  none
                else
                bif y4.2.1 then
                  some ((Go.IntKind.wrap Go.IntKind.i64 ((0 : Int) - (Go.IntKind.wrap Go.IntKind.i64 ((0 : Int) - (Go.IntKind.wrap Go.IntKind.i64 y190.1.2.2.1))))), Bool.true, ())
                else
                some ((Go.IntKind.wrap Go.IntKind.i64 ((0 : Int) - (Go.IntKind.wrap Go.IntKind.i64 y190.1.2.2.1))), Bool.true, ())
              | .inr y225 =>
                bif (!y225.1.1) then
                  none
                else
                bif (Go.Iv.ilt (9223372036854775808 : Int) y190.1.2.2.1) then
                  none
                else
                bif y4.2.1 then
                  some ((Go.IntKind.wrap Go.IntKind.i64 ((0 : Int) - (Go.IntKind.wrap Go.IntKind.i64 ((0 : Int) - (Go.IntKind.wrap Go.IntKind.i64 y190.1.2.2.1))))), Bool.true, ())
                else
                some ((Go.IntKind.wrap Go.IntKind.i64 ((0 : Int) - (Go.IntKind.wrap Go.IntKind.i64 y190.1.2.2.1))), Bool.true, ())
          else
          Option.bind (L81_10 n (List.take ((List.length y190.1.1) - 1) (List.drop 1 y190.1.1)) (94 : Int) (0 : Int) Bool.false) fun y230 =>
          match y230 with
            | .inl y231 =>
              bif (!(y231.1.1 != (95 : Int))) then
                none
              else
              bif (Go.Iv.ilt (9223372036854775808 : Int) y190.1.2.2.1) then
                none
              else
              bif y4.2.1 then
                some ((Go.IntKind.wrap Go.IntKind.i64 ((0 : Int) - (Go.IntKind.wrap Go.IntKind.i64 ((0 : Int) - (Go.IntKind.wrap Go.IntKind.i64 y190.1.2.2.1))))), Bool.true, ())
              else
              some ((Go.IntKind.wrap Go.IntKind.i64 ((0 : Int) - (Go.IntKind.wrap Go.IntKind.i64 y190.1.2.2.1))), Bool.true, ())
            | .inr y232 =>
              bif (!y232.1.1) then
                none
              else
              bif (Go.Iv.ilt (9223372036854775808 : Int) y190.1.2.2.1) then
                none
              else
              bif y4.2.1 then
                some ((Go.IntKind.wrap Go.IntKind.i64 ((0 : Int) - (Go.IntKind.wrap Go.IntKind.i64 ((0 : Int) - (Go.IntKind.wrap Go.IntKind.i64 y190.1.2.2.1))))), Bool.true, ())
              else
              some ((Go.IntKind.wrap Go.IntKind.i64 ((0 : Int) - (Go.IntKind.wrap Go.IntKind.i64 y190.1.2.2.1))), Bool.true, ())
        else
        Option.bind (L81_10 n (List.take ((List.length y190.1.1) - 1) (List.drop 1 y190.1.1)) (94 : Int) (0 : Int) Bool.false) fun y237 =>
        match y237 with
          | .inl y238 =>
            bif (!(y238.1.1 != (95 : Int))) then
              none
            else
            bif (Go.Iv.ilt (9223372036854775808 : Int) y190.1.2.2.1) then
              none
            else
            bif y4.2.1 then
              some ((Go.IntKind.wrap Go.IntKind.i64 ((0 : Int) - (Go.IntKind.wrap Go.IntKind.i64 ((0 : Int) - (Go.IntKind.wrap Go.IntKind.i64 y190.1.2.2.1))))), Bool.true, ())
            else
            some ((Go.IntKind.wrap Go.IntKind.i64 ((0 : Int) - (Go.IntKind.wrap Go.IntKind.i64 y190.1.2.2.1))), Bool.true, ())
          | .inr y239 =>
            bif (!y239.1.1) then
              none
            else
            bif (Go.Iv.ilt (9223372036854775808 : Int) y190.1.2.2.1) then
              none
            else
            bif y4.2.1 then
              some ((Go.IntKind.wrap Go.IntKind.i64 ((0 : Int) - (Go.IntKind.wrap Go.IntKind.i64 ((0 : Int) - (Go.IntKind.wrap Go.IntKind.i64 y190.1.2.2.1))))), Bool.true, ())
            else
            some ((Go.IntKind.wrap Go.IntKind.i64 ((0 : Int) - (Go.IntKind.wrap Go.IntKind.i64 y190.1.2.2.1))), Bool.true, ())
        else none
      else
      bif (Go.Iv.ile (2 : Int) (len y190.1.1)) then
        Option.bind (y190.1.1[0]?) fun x244 =>
        bif (x244 == (48 : UInt8)) then
          Option.bind (y190.1.1[1]?) fun x245 =>
          bif ((x245 ||| (32 : UInt8)) == (98 : UInt8)) then
            Option.bind (y190.1.1[1]?) fun x246 =>
            Option.bind (L81_10 n y190.1.1 (48 : Int) (2 : Int) ((x246 ||| (32 : UInt8)) == (120 : UInt8))) fun y247 =>
            match y247 with
              | .inl y248 =>
                bif (!(y248.1.1 != (95 : Int))) then
                  none
                else
                bif (Go.Iv.ilt (9223372036854775808 : Int) y190.1.2.2.1) then
                  none
                else
                bif y4.2.1 then
                  some ((Go.IntKind.wrap Go.IntKind.i64 ((0 : Int) - (Go.IntKind.wrap Go.IntKind.i64 ((0 : Int) - (Go.IntKind.wrap Go.IntKind.i64 y190.1.2.2.1))))), Bool.true, ())
                else
                some ((Go.IntKind.wrap Go.IntKind.i64 ((0 : Int) - (Go.IntKind.wrap Go.IntKind.i64 y190.1.2.2.1))), Bool.true, ())
              | .inr y249 =>
                bif (!y249.1.1) then
                  none
                else
                bif (Go.Iv.ilt (9223372036854775808 : Int) y190.1.2.2.1) then
                  none
                else
                bif y4.2.1 then
                  some ((Go.IntKind.wrap Go.IntKind.i64 ((0 : Int) - (Go.IntKind.wrap Go.IntKind.i64 ((0 : Int) - (Go.IntKind.wrap Go.IntKind.i64 y190.1.2.2.1))))), Bool.true, ())
                else
                some ((Go.IntKind.wrap Go.IntKind.i64 ((0 : Int) - (Go.IntKind.wrap Go.IntKind.i64 y190.1.2.2.1))), Bool.true, ())
          else
          Option.bind (y190.1.1[1]?) fun x254 =>
          bif ((x254 ||| (32 : UInt8)) == (111 : UInt8)) then
            Option.bind (y190.1.1[1]?) fun x255 =>
            Option.bind (L81_10 n y190.1.1 (48 : Int) (2 : Int) ((x255 ||| (32 : UInt8)) == (120 : UInt8))) fun y256 =>
            match y256 with
              | .inl y257 =>
                bif (!(y257.1.1 != (95 : Int))) then
                  none
                else
                bif (Go.Iv.ilt (9223372036854775808 : Int) y190.1.2.2.1) then
                  none
                else
                bif y4.2.1 then
                  some ((Go.IntKind.wrap Go.IntKind.i64 ((0 : Int) - (Go.IntKind.wrap Go.IntKind.i64 ((0 : Int) - (Go.IntKind.wrap Go.IntKind.i64 y190.1.2.2.1))))), Bool.true, ())
                else
                some ((Go.IntKind.wrap Go.IntKind.i64 ((0 : Int) - (Go.IntKind.wrap Go.IntKind.i64 y190.1.2.2.1))), Bool.true, ())
              | .inr y258 =>
                bif (!y258.1.1) then
                  none
                else
                bif (Go.Iv.ilt (9223372036854775808 : Int) y190.1.2.2.1) then
                  none
                else
                bif y4.2.1 then
                  some ((Go.IntKind.wrap Go.IntKind.i64 ((0 : Int) - (Go.IntKind.wrap Go.IntKind.i64 ((0 : Int) - (Go.IntKind.wrap Go.IntKind.i64 y190.1.2.2.1))))), Bool.true, ())
                else
                some ((Go.IntKind.wrap Go.IntKind.i64 ((0 : Int) - (Go.IntKind.wrap Go.IntKind.i64 y190.1.2.2.1))), Bool.true, ())
          else
          Option.bind (y190.1.1[1]?) fun x263 =>
          bif ((x263 ||| (32 : UInt8)) == (120 : UInt8)) then
            Option.bind (y190.1.1[1]?) fun x264 =>
            Option.bind (L81_10 n y190.1.1 (48 : Int) (2 : Int) ((x264 ||| (32 : UInt8)) == (120 : UInt8))) fun y265 =>
            match y265 with
              | .inl y266 =>
                bif (!(y266.1.1 != (95 : Int))) then
                  none
                else
                bif (Go.Iv.ilt (9223372036854775808 : Int) y190.1.2.2.1) then
                  none
                else
                bif y4.2.1 then
                  some ((Go.IntKind.wrap Go.IntKind.i64 ((0 : Int) - (Go.IntKind.wrap Go.IntKind.i64 ((0 : Int) - (Go.IntKind.wrap Go.IntKind.i64 y190.1.2.2.1))))), Bool.true, ())
                else
                some ((Go.IntKind.wrap Go.IntKind.i64 ((0 : Int) - (Go.IntKind.wrap Go.IntKind.i64 y190.1.2.2.1))), Bool.true, ())
              | .inr y267 =>
                bif (!y267.1.1) then
                  none
                else
                bif (Go.Iv.ilt (9223372036854775808 : Int) y190.1.2.2.1) then
                  none
                else
                bif y4.2.1 then
                  some ((Go.IntKind.wrap Go.IntKind.i64 ((0 : Int) - (Go.IntKind.wrap Go.IntKind.i64 ((0 : Int) - (Go.IntKind.wrap Go.IntKind.i64 y190.1.2.2.1))))), Bool.true, ())
                else
                some ((Go.IntKind.wrap Go.IntKind.i64 ((0 : Int) - (Go.IntKind.wrap Go.IntKind.i64 y190.1.2.2.1))), Bool.true, ())
          else
          Option.bind (L81_10 n y190.1.1 (94 : Int) (0 : Int) Bool.false) fun y272 =>
          match y272 with
            | .inl y273 =>
              bif (!(y273.1.1 != (95 : Int))) then
                none
              else
              bif (Go.Iv.ilt (9223372036854775808 : Int) y190.1.2.2.1) then
                none
              else
              bif y4.2.1 then
                some ((Go.IntKind.wrap Go.IntKind.i64 ((0 : Int) - (Go.IntKind.wrap Go.IntKind.i64 ((0 : Int) - (Go.IntKind.wrap Go.IntKind.i64 y190.1.2.2.1))))), Bool.true, ())
              else
              some ((Go.IntKind.wrap Go.IntKind.i64 ((0 : Int) - (Go.IntKind.wrap Go.IntKind.i64 y190.1.2.2.1))), Bool.true, ())
            | .inr y274 =>
              bif (!y274.1.1) then
                none
              else
              bif (Go.Iv.ilt (9223372036854775808 : Int) y190.1.2.2.1) then
                none
              else
              bif y4.2.1 then
                some ((Go.IntKind.wrap Go.IntKind.i64 ((0 : Int) - (Go.IntKind.wrap Go.IntKind.i64 ((0 : Int) - (Go.IntKind.wrap Go.IntKind.i64 y190.1.2.2.1))))), Bool.true, ())
              else
              some ((Go.IntKind.wrap Go.IntKind.i64 ((0 : Int) - (Go.IntKind.wrap Go.IntKind.i64 y190.1.2.2.1))), Bool.true, ())
        else
        Option.bind (L81_10 n y190.1.1 (94 : Int) (0 : Int) Bool.false) fun y279 =>
        match y279 with
          | .inl y280 =>
            bif (!(y280.1.1 != (95 : Int))) then
              none
            else
            bif (Go.Iv.ilt (9223372036854775808 : Int) y190.1.2.2.1) then
              none
            else
            bif y4.2.1 then
              some ((Go.IntKind.wrap Go.IntKind.i64 ((0 : Int) - (Go.IntKind.wrap Go.IntKind.i64 ((0 : Int) - (Go.IntKind.wrap Go.IntKind.i64 y190.1.2.2.1))))), Bool.true, ())
            else
            some ((Go.IntKind.wrap Go.IntKind.i64 ((0 : Int) - (Go.IntKind.wrap Go.IntKind.i64 y190.1.2.2.1))), Bool.true, ())
          | .inr y281 =>
            bif (!y281.1.1) then
              none
            else
            bif (Go.Iv.ilt (9223372036854775808 : Int) y190.1.2.2.1) then
              none
            else
            bif y4.2.1 then
              some ((Go.IntKind.wrap Go.IntKind.i64 ((0 : Int) - (Go.IntKind.wrap Go.IntKind.i64 ((0 : Int) - (Go.IntKind.wrap Go.IntKind.i64 y190.1.2.2.1))))), Bool.true, ())
            else
            some ((Go.IntKind.wrap Go.IntKind.i64 ((0 : Int) - (Go.IntKind.wrap Go.IntKind.i64 y190.1.2.2.1))), Bool.true, ())
      else
      Option.bind (L81_10 n y190.1.1 (94 : Int) (0 : Int) Bool.false) fun y286 =>
      match y286 with
        | .inl y287 =>
          bif (!(y287.1.1 != (95 : Int))) then
            none
          else
          bif (Go.Iv.ilt (9223372036854775808 : Int) y190.1.2.2.1) then
            none
          else
          bif y4.2.1 then
            some ((Go.IntKind.wrap Go.IntKind.i64 ((0 : Int) - (Go.IntKind.wrap Go.IntKind.i64 ((0 : Int) - (Go.IntKind.wrap Go.IntKind.i64 y190.1.2.2.1))))), Bool.true, ())
          else
          some ((Go.IntKind.wrap Go.IntKind.i64 ((0 : Int) - (Go.IntKind.wrap Go.IntKind.i64 y190.1.2.2.1))), Bool.true, ())
        | .inr y288 =>
          bif (!y288.1.1) then
            none
          else
          bif (Go.Iv.ilt (9223372036854775808 : Int) y190.1.2.2.1) then
            none
          else
          bif y4.2.1 then
            some ((Go.IntKind.wrap Go.IntKind.i64 ((0 : Int) - (Go.IntKind.wrap Go.IntKind.i64 ((0 : Int) - (Go.IntKind.wrap Go.IntKind.i64 y190.1.2.2.1))))), Bool.true, ())
          else
          some ((Go.IntKind.wrap Go.IntKind.i64 ((0 : Int) - (Go.IntKind.wrap Go.IntKind.i64 y190.1.2.2.1))), Bool.true, ())
    else
    bif (Go.Iv.ilt (9223372036854775808 : Int) y190.1.2.2.1) then
      none
    else
    bif y4.2.1 then
      some ((Go.IntKind.wrap Go.IntKind.i64 ((0 : Int) - (Go.IntKind.wrap Go.IntKind.i64 ((0 : Int) - (Go.IntKind.wrap Go.IntKind.i64 y190.1.2.2.1))))), Bool.true, ())
    else
    some ((Go.IntKind.wrap Go.IntKind.i64 ((0 : Int) - (Go.IntKind.wrap Go.IntKind.i64 y190.1.2.2.1))), Bool.true, ())
    else none
  else
  bif (y4.1 == ([] : List UInt8)) then
    none
  else
  Option.bind (L72_36 (n + 1) (10 : Int) Bool.false y4.1 (1844674407370955162 : Int) (18446744073709551615 : Int) Bool.false (0 : Int) y4.1 (len y4.1) (0 : Int)) fun y296 =>
  bif y296.1.2.1 then
    Option.bind (bif (Go.Iv.ile (1 : Int) (len y296.1.1)) then
        Option.bind (y296.1.1[0]?) fun x298 =>
        bif (x298 == (45 : UInt8)) then
          some Bool.true
        else
        Option.bind (y296.1.1[0]?) fun x299 =>
        some (x299 == (43 : UInt8))
      else
      some Bool.false) fun b300 =>
    bif b300 then
      bif (Go.Iv.ile (1 : Int) (len y296.1.1)) then
      bif (Go.Iv.ile (2 : Int) (len (List.take ((List.length y296.1.1) - 1) (List.drop 1 y296.1.1)))) then
        Option.bind ((List.take ((List.length y296.1.1) - 1) (List.drop 1 y296.1.1))[0]?) fun x301 =>
        bif (x301 == (48 : UInt8)) then
          Option.bind ((List.take ((List.length y296.1.1) - 1) (List.drop 1 y296.1.1))[1]?) fun x302 =>
          bif ((x302 ||| (32 : UInt8)) == (98 : UInt8)) then
            Option.bind ((List.take ((List.length y296.1.1) - 1) (List.drop 1 y296.1.1))[1]?) fun x303 =>
            Option.bind (L81_10 n (List.take ((List.length y296.1.1) - 1) (List.drop 1 y296.1.1)) (48 : Int) (2 : Int) ((x303 ||| (32 : UInt8)) == (120 : UInt8))) fun y304 =>
            match y304 with
              | .inl y305 =>
                bif (!(y305.1.1 != (95 : Int))) then
                  none
                else
                bif (Go.Iv.ile (9223372036854775808 : Int) y296.1.2.2.1) then
                  none
                else
                bif y4.2.1 then
                  some ((Go.IntKind.wrap Go.IntKind.i64 ((0 : Int) - (Go.IntKind.wrap Go.IntKind.i64 y296.1.2.2.1))), Bool.true, ())
                else
                some ((Go.IntKind.wrap Go.IntKind.i64 y296.1.2.2.1), Bool.true, ())
              | .inr y306 =>
                bif (!y306.1.1) then
                  none
                else
                bif (Go.Iv.ile (9223372036854775808 : Int) y296.1.2.2.1) then
                  none
                else
                bif y4.2.1 then
                  some ((Go.IntKind.wrap Go.IntKind.i64 ((0 : Int) - (Go.IntKind.wrap Go.IntKind.i64 y296.1.2.2.1))), Bool.true, ())
                else
                some ((Go.IntKind.wrap Go.IntKind.i64 y296.1.2.2.1), Bool.true, ())
          else
          Option.bind ((List.take ((List.length y296.1.1) - 1) (List.drop 1 y296.1.1))[1]?) fun x311 =>
          bif ((x311 ||| (32 : UInt8)) == (111 : UInt8)) then
            Option.bind ((List.take ((List.length y296.1.1) - 1) (List.drop 1 y296.1.1))[1]?) fun x312 =>
            Option.bind (L81_10 n (List.take ((List.length y296.1.1) - 1) (List.drop 1 y296.1.1)) (48 : Int) (2 : Int) ((x312 ||| (32 : UInt8)) == (120 : UInt8))) fun y313 =>
            match y313 with
              | .inl y314 =>
                bif (!(y314.1.1 != (95 : Int))) then
                  none
                else
                bif (Go.Iv.ile (9223372036854775808 : Int) y296.1.2.2.1) then
                  none
                else
                bif y4.2.1 then
                  some ((Go.IntKind.wrap Go.IntKind.i64 ((0 : Int) - (Go.IntKind.wrap Go.IntKind.i64 y296.1.2.2.1))), Bool.true, ())
                else
                some ((Go.IntKind.wrap Go.IntKind.i64 y296.1.2.2.1), Bool.true, ())
              | .inr y315 =>
                bif (!y315.1.1) then
                  none
                else
                bif (Go.Iv.ile (9223372036854775808 : Int) y296.1.2.2.1) then
                  none
                else
                bif y4.2.1 then
                  some ((Go.IntKind.wrap Go.IntKind.i64 ((0 : Int) - (Go.IntKind.wrap Go.IntKind.i64 y296.1.2.2.1))), Bool.true, ())
                else
                some ((Go.IntKind.wrap Go.IntKind.i64 y296.1.2.2.1), Bool.true, ())
          else
          Option.bind ((List.take ((List.length y296.1.1) - 1) (List.drop 1 y296.1.1))[1]?) fun x320 =>
          bif ((x320 ||| (32 : UInt8)) == (120 : UInt8)) then
            Option.bind ((List.take ((List.length y296.1.1) - 1) (List.drop 1 y296.1.1))[1]?) fun x321 =>
            Option.bind (L81_10 n (List.take ((List.length y296.1.1) - 1) (List.drop 1 y296.1.1)) (48 : Int) (2 : Int) ((x321 ||| (32 : UInt8)) == (120 : UInt8))) fun y322 =>
            match y322 with
              | .inl y323 =>
                bif (!(y323.1.1 != (95 : Int))) then
                  none
                else
                bif (Go.Iv.ile (9223372036854775808 : Int) y296.1.2.2.1) then
                  none
                else
                bif y4.2.1 then
                  some ((Go.IntKind.wrap Go.IntKind.i64 ((0 : Int) - (Go.IntKind.wrap Go.IntKind.i64 y296.1.2.2.1))), Bool.true, ())
                else
                some ((Go.IntKind.wrap Go.IntKind.i64 y296.1.2.2.1), Bool.true, ())
              | .inr y324 =>
                bif (!y324.1.1) then
                  none
                else
                bif (Go.Iv.ile (9223372036854775808 : Int) y296.1.2.2.1) then
                  none
                else
                bif y4.2.1 then
                  some ((Go.IntKind.wrap Go.IntKind.i64 ((0 : Int) - (Go.IntKind.wrap Go.IntKind.i64 y296.1.2.2.1))), Bool.true, ())
                else
                some ((Go.IntKind.wrap Go.IntKind.i64 y296.1.2.2.1), Bool.true, ())
          else
          Option.bind (L81_10 n (List.take ((List.length y296.1.1) - 1) (List.drop 1 y296.1.1)) (94 : Int) (0 : Int) Bool.false) fun y329 =>
          match y329 with
            | .inl y330 =>
              bif (!(y330.1.1 != (95 : Int))) then
                none
              else
              bif (Go.Iv.ile (9223372036854775808 : Int) y296.1.2.2.1) then
                none
              else
              bif y4.2.1 then
                some ((Go.IntKind.wrap Go.IntKind.i64 ((0 : Int) - (Go.IntKind.wrap Go.IntKind.i64 y296.1.2.2.1))), Bool.true, ())
              else
              some ((Go.IntKind.wrap Go.IntKind.i64 y296.1.2.2.1), Bool.true, ())
            | .inr y331 =>
              bif (!y331.1.1) then
                none
              else
              bif (Go.Iv.ile (9223372036854775808 : Int) y296.1.2.2.1) then
                none
              else
              bif y4.2.1 then
                some ((Go.IntKind.wrap Go.IntKind.i64 ((0 : Int) - (Go.IntKind.wrap Go.IntKind.i64 y296.1.2.2.1))), Bool.true, ())
              else
              some ((Go.IntKind.wrap Go.IntKind.i64 y296.1.2.2.1), Bool.true, ())
        else
        Option.bind (L81_10 n (List.take ((List.length y296.1.1) - 1) (List.drop 1 y296.1.1)) (94 : Int) (0 : Int) Bool.false) fun y336 =>
        match y336 with
          | .inl y337 =>
            bif (!(y337.1.1 != (95 : Int))) then
              none
            else
            bif (Go.Iv.ile (9223372036854775808 : Int) y296.1.2.2.1) then
              none
            else
            bif y4.2.1 then
              some ((Go.IntKind.wrap Go.IntKind.i64 ((0 : Int) - (Go.IntKind.wrap Go.IntKind.i64 y296.1.2.2.1))), Bool.true, ())
            else
            some ((Go.IntKind.wrap Go.IntKind.i64 y296.1.2.2.1), Bool.true, ())
          | .inr y338 =>
            bif (!y338.1.1) then
              none
            else
            bif (Go.Iv.ile (9223372036854775808 : Int) y296.1.2.2.1) then
              none
            else
            bif y4.2.1 then
              some ((Go.IntKind.wrap Go.IntKind.i64 ((0 : Int) - (Go.IntKind.wrap Go.IntKind.i64 y296.1.2.2.1))), Bool.true, ())
            else
            some ((Go.IntKind.wrap Go.IntKind.i64 y296.1.2.2.1), Bool.true, ())
      else
      Option.bind (L81_10 n (List.take ((List.length y296.1.1) - 1) (List.drop 1 y296.1.1)) (94 : Int) (0 : Int) Bool.false) fun y343 =>
      match y343 with
        | .inl y344 =>
          bif (!(y344.1.1 != (95 : Int))) then
            none
          else
          bif (Go.Iv.ile (9223372036854775808 : Int) y296.1.2.2.1) then
            none
          else
          bif y4.2.1 then
            some ((Go.IntKind.wrap Go.IntKind.i64 ((0 : Int) - (Go.IntKind.wrap Go.IntKind.i64 y296.1.2.2.1))), Bool.true, ())
          else
          some ((Go.IntKind.wrap Go.IntKind.i64 y296.1.2.2.1), Bool.true, ())
        | .inr y345 =>
          bif (!y345.1.1) then
            none
          else
          bif (Go.Iv.ile (9223372036854775808 : Int) y296.1.2.2.1) then
            none
          else
          bif y4.2.1 then
            some ((Go.IntKind.wrap Go.IntKind.i64 ((0 : Int) - (Go.IntKind.wrap Go.IntKind.i64 y296.1.2.2.1))), Bool.true, ())
          else
          some ((Go.IntKind.wrap Go.IntKind.i64 y296.1.2.2.1), Bool.true, ())
      else none
    else
    bif (Go.Iv.ile (2 : Int) (len y296.1.1)) then
      Option.bind (y296.1.1[0]?) fun x350 =>
      bif (x350 == (48 : UInt8)) then
        Option.bind (y296.1.1[1]?) fun x351 =>
        bif ((x351 ||| (32 : UInt8)) == (98 : UInt8)) then
          Option.bind (y296.1.1[1]?) fun x352 =>
          Option.bind (L81_10 n y296.1.1 (48 : Int) (2 : Int) ((x352 ||| (32 : UInt8)) == (120 : UInt8))) fun y353 =>
          match y353 with
            | .inl y354 =>
              bif (!(y354.1.1 != (95 : Int))) then
                none
              else
              bif (Go.Iv.ile (9223372036854775808 : Int) y296.1.2.2.1) then
                none
              else
              bif y4.2.1 then
                some ((Go.IntKind.wrap Go.IntKind.i64 ((0 : Int) - (Go.IntKind.wrap Go.IntKind.i64 y296.1.2.2.1))), Bool.true, ())
              else
              some ((Go.IntKind.wrap Go.IntKind.i64 y296.1.2.2.1), Bool.true, ())
            | .inr y355 =>
              bif (!y355.1.1) then
                none
              else
              bif (Go.Iv.ile (9223372036854775808 : Int) y296.1.2.2.1) then
                none
              else
              bif y4.2.1 then
                some ((Go.IntKind.wrap Go.IntKind.i64 ((0 : Int) - (Go.IntKind.wrap Go.IntKind.i64 y296.1.2.2.1))), Bool.true, ())
              else
              some ((Go.IntKind.wrap Go.IntKind.i64 y296.1.2.2.1), Bool.true, ())
        else
        Option.bind (y296.1.1[1]?) fun x360 =>
        bif ((x360 ||| (32 : UInt8)) == (111 : UInt8)) then
          Option.bind (y296.1.1[1]?) fun x361 =>
          Option.bind (L81_10 n y296.1.1 (48 : Int) (2 : Int) ((x361 ||| (32 : UInt8)) == (120 : UInt8))) fun y362 =>
          match y362 with
            | .inl y363 =>
              bif (!(y363.1.1 != (95 : Int))) then
                none
              else
              bif (Go.Iv.ile (9223372036854775808 : Int) y296.1.2.2.1) then
                none
              else
              bif y4.2.1 then
                some ((Go.IntKind.wrap Go.IntKind.i64 ((0 : Int) - (Go.IntKind.wrap Go.IntKind.i64 y296.1.2.2.1))), Bool.true, ())
              else
              some ((Go.IntKind.wrap Go.IntKind.i64 y296.1.2.2.1), Bool.true, ())
            | .inr y364 =>
              bif (!y364.1.1) then
                none
              else
              bif (Go.Iv.ile (9223372036854775808 : Int) y296.1.2.2.1) then
                none
              else
              bif y4.2.1 then
                some ((Go.IntKind.wrap Go.IntKind.i64 ((0 : Int) - (Go.IntKind.wrap Go.IntKind.i64 y296.1.2.2.1))), Bool.true, ())
              else
              some ((Go.IntKind.wrap Go.IntKind.i64 y296.1.2.2.1), Bool.true, ())
        else
        Option.bind (y296.1.1[1]?) fun x369 =>
        bif ((x369 ||| (32 : UInt8)) == (120 : UInt8)) then
          Option.bind (y296.1.1[1]?) fun x370 =>
          Option.bind (L81_10 n y296.1.1 (48 : Int) (2 : Int) ((x370 ||| (32 : UInt8)) == (120 : UInt8))) fun y371 =>
          match y371 with
            | .inl y372 =>
              bif (!(y372.1.1 != (95 : Int))) then
                none
              else
              bif (Go.Iv.ile (9223372036854775808 : Int) y296.1.2.2.1) then
                none
              else
              bif y4.2.1 then
                some ((Go.IntKind.wrap Go.IntKind.i64 ((0 : Int) - (Go.IntKind.wrap Go.IntKind.i64 y296.1.2.2.1))), Bool.true, ())
              else
              some ((Go.IntKind.wrap Go.IntKind.i64 y296.1.2.2.1), Bool.true, ())
            | .inr y373 =>
              bif (!y373.1.1) then
                none
              else
              bif (Go.Iv.ile (9223372036854775808 : Int) y296.1.2.2.1) then
                none
              else
              bif y4.2.1 then
                some ((Go.IntKind.wrap Go.IntKind.i64 ((0 : Int) - (Go.IntKind.wrap Go.IntKind.i64 y296.1.2.2.1))), Bool.true, ())
              else
              some ((Go.IntKind.wrap Go.IntKind.i64 y296.1.2.2.1), Bool.true, ())
        else
        Option.bind (L81_10 n y296.1.1 (94 : Int) (0 : Int) Bool.false) fun y378 =>
        match y378 with
          | .inl y379 =>
            bif (!(y379.1.1 != (95 : Int))) then
              none
            else
            bif (Go.Iv.ile (9223372036854775808 : Int) y296.1.2.2.1) then
              none
            else
            bif y4.2.1 then
              some ((Go.IntKind.wrap Go.IntKind.i64 ((0 : Int) - (Go.IntKind.wrap Go.IntKind.i64 y296.1.2.2.1))), Bool.true, ())
            else
            some ((Go.IntKind.wrap Go.IntKind.i64 y296.1.2.2.1), Bool.true, ())
          | .inr y380 =>
            bif (!y380.1.1) then
              none
            else
            bif (Go.Iv.ile (9223372036854775808 : Int) y296.1.2.2.1) then
              none
            else
            bif y4.2.1 then
              some ((Go.IntKind.wrap Go.IntKind.i64 ((0 : Int) - (Go.IntKind.wrap Go.IntKind.i64 y296.1.2.2.1))), Bool.true, ())
            else
            some ((Go.IntKind.wrap Go.IntKind.i64 y296.1.2.2.1), Bool.true, ())
      else
      Option.bind (L81_10 n y296.1.1 (94 : Int) (0 : Int) Bool.false) fun y385 =>
      match y385 with
        | .inl y386 =>
          bif (!(y386.1.1 != (95 : Int))) then
            none
          else
          bif (Go.Iv.ile (9223372036854775808 : Int) y296.1.2.2.1) then
            none
          else
          bif y4.2.1 then
            some ((Go.IntKind.wrap Go.IntKind.i64 ((0 : Int) - (Go.IntKind.wrap Go.IntKind.i64 y296.1.2.2.1))), Bool.true, ())
          else
          some ((Go.IntKind.wrap Go.IntKind.i64 y296.1.2.2.1), Bool.true, ())
        | .inr y387 =>
          bif (!y387.1.1) then
            none
          else
          bif (Go.Iv.ile (9223372036854775808 : Int) y296.1.2.2.1) then
            none
          else
          bif y4.2.1 then
            some ((Go.IntKind.wrap Go.IntKind.i64 ((0 : Int) - (Go.IntKind.wrap Go.IntKind.i64 y296.1.2.2.1))), Bool.true, ())
          else
          some ((Go.IntKind.wrap Go.IntKind.i64 y296.1.2.2.1), Bool.true, ())
    else
    Option.bind (L81_10 n y296.1.1 (94 : Int) (0 : Int) Bool.false) fun y392 =>
    match y392 with
      | .inl y393 =>
        bif (!(y393.1.1 != (95 : Int))) then
          none
        else
        bif (Go.Iv.ile (9223372036854775808 : Int) y296.1.2.2.1) then
          none
        else
        bif y4.2.1 then
          some ((Go.IntKind.wrap Go.IntKind.i64 ((0 : Int) - (Go.IntKind.wrap Go.IntKind.i64 y296.1.2.2.1))), Bool.true, ())
        else
        some ((Go.IntKind.wrap Go.IntKind.i64 y296.1.2.2.1), Bool.true, ())
      | .inr y394 =>
        bif (!y394.1.1) then
          none
        else
        bif (Go.Iv.ile (9223372036854775808 : Int) y296.1.2.2.1) then
          none
        else
        bif y4.2.1 then
          some ((Go.IntKind.wrap Go.IntKind.i64 ((0 : Int) - (Go.IntKind.wrap Go.IntKind.i64 y296.1.2.2.1))), Bool.true, ())
        else
        some ((Go.IntKind.wrap Go.IntKind.i64 y296.1.2.2.1), Bool.true, ())
  else
  bif (Go.Iv.ile (9223372036854775808 : Int) y296.1.2.2.1) then
    none
  else
  bif y4.2.1 then
    some ((Go.IntKind.wrap Go.IntKind.i64 ((0 : Int) - (Go.IntKind.wrap Go.IntKind.i64 y296.1.2.2.1))), Bool.true, ())
  else
  some ((Go.IntKind.wrap Go.IntKind.i64 y296.1.2.2.1), Bool.true, ())
  else none
noncomputable def exponent_it : FnIt := ⟨29, [(false, .str)], [(false, (.int .i64)), (false, .bool)], 6, fun n x => exponent n x.1⟩
theorem exponent_ok (n : Nat) : FnOK Go.Proofs.Tryd.prog hint shT exponent_it n :=
  FnOK.of (hk := fun β => (Known.mk [count_it, signed_it] [L81_10_it, L72_36_it, L55_10_it]).hk β) (sh := shT) (fun m _ => KnownOK.hook (((((KnownOK.nil.fn signed_ok).fn count_ok).loop L55_10_ok L55_10_T_ok).loop L72_36_ok L72_36_T_ok).loop L81_10_ok L81_10_T_ok) m) (fun x => by kernel_rfl)

noncomputable def named (n : Nat) (s : List UInt8) : Option ((Bool × (List UInt8 × (Int × Int))) × (Bool × Unit)) :=
  bif (s == ([(46 : UInt8), (110 : UInt8), (97 : UInt8), (110 : UInt8)] : List UInt8)) then
    some ((Bool.false, (([] : List UInt8), ((0 : Int), (2 : Int)))), Bool.true, ())
  else
  bif (s == ([(46 : UInt8), (78 : UInt8), (97 : UInt8), (78 : UInt8)] : List UInt8)) then
    some ((Bool.false, (([] : List UInt8), ((0 : Int), (2 : Int)))), Bool.true, ())
  else
  bif (s == ([(46 : UInt8), (78 : UInt8), (65 : UInt8), (78 : UInt8)] : List UInt8)) then
    some ((Bool.false, (([] : List UInt8), ((0 : Int), (2 : Int)))), Bool.true, ())
  else
  Option.bind (signed n s) fun y0 =>
  bif (y0.1 == ([(46 : UInt8), (105 : UInt8), (110 : UInt8), (102 : UInt8)] : List UInt8)) then
    some ((y0.2.1, (([] : List UInt8), ((0 : Int), (1 : Int)))), Bool.true, ())
  else
  bif (y0.1 == ([(46 : UInt8), (73 : UInt8), (110 : UInt8), (102 : UInt8)] : List UInt8)) then
    some ((y0.2.1, (([] : List UInt8), ((0 : Int), (1 : Int)))), Bool.true, ())
  else
  bif (y0.1 == ([(46 : UInt8), (73 : UInt8), (78 : UInt8), (70 : UInt8)] : List UInt8)) then
    some ((y0.2.1, (([] : List UInt8), ((0 : Int), (1 : Int)))), Bool.true, ())
  else
  some ((Bool.false, (([] : List UInt8), ((0 : Int), (0 : Int)))), Bool.false, ())
noncomputable def named_it : FnIt := ⟨26, [(false, .str)], [(true, (.cons .bool (.cons .str (.cons (.int .i64) (.int .i64))))), (false, .bool)], 4, fun n x => named n x.1⟩
theorem named_ok (n : Nat) : FnOK Go.Proofs.Tryd.prog hint shT named_it n :=
  FnOK.of (hk := fun β => (Known.mk [signed_it] []).hk β) (sh := shT) (fun m _ => KnownOK.hook (KnownOK.nil.fn signed_ok) m) (fun x => by kernel_rfl)

noncomputable def float (n : Nat) (s : List UInt8) : Option ((Bool × (List UInt8 × (Int × Int))) × (Bool × Unit)) :=
  Option.bind (named (n + 2) s) fun y0 =>
  bif y0.2.1 then
    some ((y0.1.1, (y0.1.2.1, (y0.1.2.2.1, y0.1.2.2.2))), Bool.true, ())
  else
  Option.bind (signed (n + 3) s) fun y1 =>
  Option.bind (count (n + 5) y1.1) fun y2 =>
  bif ((Go.Iv.ile (0 : Int) y2.1) && (Go.Iv.ile y2.1 (len y1.1))) then
  bif ((Go.Iv.ile (0 : Int) y2.1) && (Go.Iv.ile y2.1 (len y1.1))) then
  Option.bind (hasPrefix (n + 5) (List.take ((List.length y1.1) - (Int.toNat y2.1)) (List.drop (Int.toNat y2.1) y1.1)) ([(46 : UInt8)] : List UInt8)) fun y3 =>
  bif y3.1 then
    bif (Go.Iv.ile (1 : Int) (len (List.take ((List.length y1.1) - (Int.toNat y2.1)) (List.drop (Int.toNat y2.1) y1.1)))) then
    Option.bind (count (n + 5) (List.take ((List.length (List.take ((List.length y1.1) - (Int.toNat y2.1)) (List.drop (Int.toNat y2.1) y1.1))) - 1) (List.drop 1 (List.take ((List.length y1.1) - (Int.toNat y2.1)) (List.drop (Int.toNat y2.1) y1.1))))) fun y4 =>
    bif ((Go.Iv.ile (0 : Int) (Go.IntKind.wrap Go.IntKind.i64 ((1 : Int) + y4.1))) && (Go.Iv.ile (Go.IntKind.wrap Go.IntKind.i64 ((1 : Int) + y4.1)) (len (List.take ((List.length y1.1) - (Int.toNat y2.1)) (List.drop (Int.toNat y2.1) y1.1))))) then
    bif (Go.Iv.ile (1 : Int) (((Int.toNat (Go.IntKind.wrap Go.IntKind.i64 ((1 : Int) + y4.1))) : Nat) : Int)) then
    bif ((Go.Iv.ile (0 : Int) (Go.IntKind.wrap Go.IntKind.i64 ((1 : Int) + y4.1))) && (Go.Iv.ile (Go.IntKind.wrap Go.IntKind.i64 ((1 : Int) + y4.1)) (len (List.take ((List.length y1.1) - (Int.toNat y2.1)) (List.drop (Int.toNat y2.1) y1.1))))) then
    Option.bind (exponent n (List.take ((List.length (List.take ((List.length y1.1) - (Int.toNat y2.1)) (List.drop (Int.toNat y2.1) y1.1))) - (Int.toNat (Go.IntKind.wrap Go.IntKind.i64 ((1 : Int) + y4.1)))) (List.drop (Int.toNat (Go.IntKind.wrap Go.IntKind.i64 ((1 : Int) + y4.1))) (List.take ((List.length y1.1) - (Int.toNat y2.1)) (List.drop (Int.toNat y2.1) y1.1))))) fun y5 =>
    Option.bind (bif (!y5.2.1) then
        some Bool.true
      else
      bif ((List.take ((Int.toNat y2.1) - 0) (List.drop 0 y1.1)) == ([] : List UInt8)) then
        bif ((List.take ((Int.toNat (Go.IntKind.wrap Go.IntKind.i64 ((1 : Int) + y4.1))) - 1) (List.drop 1 (List.take ((List.length y1.1) - (Int.toNat y2.1)) (List.drop (Int.toNat y2.1) y1.1)))) == ([] : List UInt8)) then
          some Bool.true
        else
        some (Go.Iv.ilt (5000 : Int) (Go.IntKind.wrap Go.IntKind.i64 ((len (List.take ((Int.toNat y2.1) - 0) (List.drop 0 y1.1))) + (len (List.take ((Int.toNat (Go.IntKind.wrap Go.IntKind.i64 ((1 : Int) + y4.1))) - 1) (List.drop 1 (List.take ((List.length y1.1) - (Int.toNat y2.1)) (List.drop (Int.toNat y2.1) y1.1))))))))
      else
      some (Go.Iv.ilt (5000 : Int) (Go.IntKind.wrap Go.IntKind.i64 ((len (List.take ((Int.toNat y2.1) - 0) (List.drop 0 y1.1))) + (len (List.take ((Int.toNat (Go.IntKind.wrap Go.IntKind.i64 ((1 : Int) + y4.1))) - 1) (List.drop 1 (List.take ((List.length y1.1) - (Int.toNat y2.1)) (List.drop (Int.toNat y2.1) y1.1))))))))) fun b7 =>
    bif b7 then
      some ((Bool.false, (([] : List UInt8), ((0 : Int), (0 : Int)))), Bool.false, ())
    else
    bif (room ((List.length (List.take ((Int.toNat y2.1) - 0) (List.drop 0 y1.1))) + (List.length (List.take ((Int.toNat (Go.IntKind.wrap Go.IntKind.i64 ((1 : Int) + y4.1))) - 1) (List.drop 1 (List.take ((List.length y1.1) - (Int.toNat y2.1)) (List.drop (Int.toNat y2.1) y1.1))))))) then
    Option.bind (whole (n + 3) y1.2.1 ((List.take ((Int.toNat y2.1) - 0) (List.drop 0 y1.1)) ++ (List.take ((Int.toNat (Go.IntKind.wrap Go.IntKind.i64 ((1 : Int) + y4.1))) - 1) (List.drop 1 (List.take ((List.length y1.1) - (Int.toNat y2.1)) (List.drop (Int.toNat y2.1) y1.1))))) (Go.IntKind.wrap Go.IntKind.i64 (y5.1 - (len (List.take ((Int.toNat (Go.IntKind.wrap Go.IntKind.i64 ((1 : Int) + y4.1))) - 1) (List.drop 1 (List.take ((List.length y1.1) - (Int.toNat y2.1)) (List.drop (Int.toNat y2.1) y1.1)))))))) fun y8 =>
    some ((y8.1.1, (y8.1.2.1, (y8.1.2.2.1, y8.1.2.2.2))), Bool.true, ())
    else none
    else none
    else none
    else none
    else none
  else
  Option.bind (exponent n (List.take ((List.length y1.1) - (Int.toNat y2.1)) (List.drop (Int.toNat y2.1) y1.1))) fun y9 =>
  Option.bind (bif (!y9.2.1) then
      some Bool.true
    else
    bif ((List.take ((Int.toNat y2.1) - 0) (List.drop 0 y1.1)) == ([] : List UInt8)) then
      some Bool.true
    else
    some (Go.Iv.ilt (5000 : Int) (Go.IntKind.wrap Go.IntKind.i64 ((len (List.take ((Int.toNat y2.1) - 0) (List.drop 0 y1.1))) + (0 : Int))))) fun b11 =>
  bif b11 then
    some ((Bool.false, (([] : List UInt8), ((0 : Int), (0 : Int)))), Bool.false, ())
  else
  bif (room ((List.length (List.take ((Int.toNat y2.1) - 0) (List.drop 0 y1.1))) + (List.length ([] : List UInt8)))) then
  Option.bind (whole (n + 3) y1.2.1 ((List.take ((Int.toNat y2.1) - 0) (List.drop 0 y1.1)) ++ ([] : List UInt8)) (Go.IntKind.wrap Go.IntKind.i64 (y9.1 - (0 : Int)))) fun y12 =>
  some ((y12.1.1, (y12.1.2.1, (y12.1.2.2.1, y12.1.2.2.2))), Bool.true, ())
  else none
  else none
  else none
noncomputable def float_it : FnIt := ⟨18, [(false, .str)], [(true, (.cons .bool (.cons .str (.cons (.int .i64) (.int .i64))))), (false, .bool)], 7, fun n x => float n x.1⟩
theorem float_ok (n : Nat) : FnOK Go.Proofs.Tryd.prog hint shT float_it n :=
  FnOK.of (hk := fun β => (Known.mk [whole_it, exponent_it, hasPrefix_it, count_it, signed_it, named_it] []).hk β) (sh := shT) (fun m _ => KnownOK.hook ((((((KnownOK.nil.fn named_ok).fn signed_ok).fn count_ok).fn hasPrefix_ok).fn exponent_ok).fn whole_ok) m) (fun x => by kernel_rfl)


end Go.Proofs.YtbkdijjliabfdaaDoor

/- Plain functions for the program's. -/
namespace Go.Proofs.YtbkdijjliabfdaaDoor
open Go Go.Iv Go.Gv
set_option maxRecDepth 100000
set_option linter.unusedVariables false
noncomputable def alive (n : Nat) : Option (Bool × Unit) :=
  Option.bind (int (n + 2) ([(48 : UInt8), (120 : UInt8), (49 : UInt8), (70 : UInt8)] : List UInt8)) fun y2 =>
  Option.bind (float n ([(48 : UInt8), (120 : UInt8), (49 : UInt8), (70 : UInt8)] : List UInt8)) fun y3 =>
  bif y2.2.1 then
    some (Bool.true, ())
  else
  bif y3.2.1 then
    some (Bool.false, ())
  else
  some (Bool.false, ())
noncomputable def alive_it : FnIt := ⟨6, [], [(false, .bool)], 10, fun n _ => alive n⟩
theorem alive_ok (n : Nat) : FnOK Go.Proofs.Tryd.prog hint shT alive_it n :=
  FnOK.of (hk := fun β => (Known.mk [float_it, int_it] []).hk β) (sh := shT) (fun m _ => KnownOK.hook ((KnownOK.nil.fn int_ok).fn float_ok) m) (fun x => by kernel_rfl)

noncomputable def nullS (_n : Nat) (s : List UInt8) : Option (Bool × Unit) :=
  Option.bind (bif (s == ([] : List UInt8)) then
      some Bool.true
    else
    bif (s == ([(126 : UInt8)] : List UInt8)) then
      some Bool.true
    else
    bif (s == ([(110 : UInt8), (117 : UInt8), (108 : UInt8), (108 : UInt8)] : List UInt8)) then
      some Bool.true
    else
    bif (s == ([(78 : UInt8), (117 : UInt8), (108 : UInt8), (108 : UInt8)] : List UInt8)) then
      some Bool.true
    else
    some (s == ([(78 : UInt8), (85 : UInt8), (76 : UInt8), (76 : UInt8)] : List UInt8))) fun b1 =>
  some (b1, ())
noncomputable def nullS_it : FnIt := ⟨14, [(false, .str)], [(false, .bool)], 0, fun n x => nullS n x.1⟩
theorem nullS_ok (n : Nat) : FnOK Go.Proofs.Tryd.prog hint shT nullS_it n :=
  FnOK.of (hk := fun β => (Known.mk [] []).hk β) (sh := shT) (fun m _ => KnownOK.hook KnownOK.nil m) (fun x => by kernel_rfl)

noncomputable def truthS (_n : Nat) (s : List UInt8) : Option (Bool × (Bool × Unit)) :=
  bif (s == ([(116 : UInt8), (114 : UInt8), (117 : UInt8), (101 : UInt8)] : List UInt8)) then
    some (Bool.true, Bool.true, ())
  else
  bif (s == ([(84 : UInt8), (114 : UInt8), (117 : UInt8), (101 : UInt8)] : List UInt8)) then
    some (Bool.true, Bool.true, ())
  else
  bif (s == ([(84 : UInt8), (82 : UInt8), (85 : UInt8), (69 : UInt8)] : List UInt8)) then
    some (Bool.true, Bool.true, ())
  else
  bif (s == ([(102 : UInt8), (97 : UInt8), (108 : UInt8), (115 : UInt8), (101 : UInt8)] : List UInt8)) then
    some (Bool.false, Bool.true, ())
  else
  bif (s == ([(70 : UInt8), (97 : UInt8), (108 : UInt8), (115 : UInt8), (101 : UInt8)] : List UInt8)) then
    some (Bool.false, Bool.true, ())
  else
  bif (s == ([(70 : UInt8), (65 : UInt8), (76 : UInt8), (83 : UInt8), (69 : UInt8)] : List UInt8)) then
    some (Bool.false, Bool.true, ())
  else
  some (Bool.false, Bool.false, ())
noncomputable def truthS_it : FnIt := ⟨15, [(false, .str)], [(false, .bool), (false, .bool)], 0, fun n x => truthS n x.1⟩
theorem truthS_ok (n : Nat) : FnOK Go.Proofs.Tryd.prog hint shT truthS_it n :=
  FnOK.of (hk := fun β => (Known.mk [] []).hk β) (sh := shT) (fun m _ => KnownOK.hook KnownOK.nil m) (fun x => by kernel_rfl)

noncomputable def coreS (n : Nat) (s : List UInt8) : Option ((List UInt8) × Unit) :=
  Option.bind (truthS (n + 7) s) fun y0 =>
  Option.bind (int (n + 2) s) fun y1 =>
  Option.bind (float n s) fun y2 =>
  Option.bind (nullS (n + 7) s) fun y3 =>
  bif y3.1 then
    some (([(110 : UInt8), (117 : UInt8), (108 : UInt8), (108 : UInt8)] : List UInt8), ())
  else
  bif y0.2.1 then
    some (([(98 : UInt8), (111 : UInt8), (111 : UInt8), (108 : UInt8)] : List UInt8), ())
  else
  bif y1.2.1 then
    some (([(105 : UInt8), (110 : UInt8), (116 : UInt8)] : List UInt8), ())
  else
  bif y2.2.1 then
    some (([(102 : UInt8), (108 : UInt8), (111 : UInt8), (97 : UInt8), (116 : UInt8)] : List UInt8), ())
  else
  some (([(115 : UInt8), (116 : UInt8), (114 : UInt8)] : List UInt8), ())
noncomputable def coreS_it : FnIt := ⟨12, [(false, .str)], [(false, .str)], 8, fun n x => coreS n x.1⟩
theorem coreS_ok (n : Nat) : FnOK Go.Proofs.Tryd.prog hint shT coreS_it n :=
  FnOK.of (hk := fun β => (Known.mk [nullS_it, float_it, int_it, truthS_it] []).hk β) (sh := shT) (fun m _ => KnownOK.hook ((((KnownOK.nil.fn truthS_ok).fn int_ok).fn float_ok).fn nullS_ok) m) (fun x => by kernel_rfl)

noncomputable def countS (_n : Nat) (s : List UInt8) : Option (Int × Unit) :=
  some ((Go.IntKind.wrap Go.IntKind.i64 ((len s) - (len (Go.Lib.trimLeftS s ([(48 : UInt8), (49 : UInt8), (50 : UInt8), (51 : UInt8), (52 : UInt8), (53 : UInt8), (54 : UInt8), (55 : UInt8), (56 : UInt8), (57 : UInt8)] : List UInt8))))), ())
noncomputable def countS_it : FnIt := ⟨31, [(false, .str)], [(false, (.int .i64))], 1, fun n x => countS n x.1⟩
theorem countS_ok (n : Nat) : FnOK Go.Proofs.Tryd.prog hint shT countS_it n :=
  FnOK.of (hk := fun β => (Known.mk [] []).hk β) (sh := shT) (fun m _ => KnownOK.hook KnownOK.nil m) (fun x => by kernel_rfl)

noncomputable def wholeS (n : Nat) (s : List UInt8) : Option ((List UInt8) × (Bool × Unit)) :=
  Option.bind (trimPrefix n s ([(45 : UInt8)] : List UInt8)) fun y0 =>
  Option.bind (countS (n + 1) y0.1) fun y1 =>
  Option.bind (bif (y1.1 == (0 : Int)) then
      some Bool.true
    else
    bif (Go.Iv.ilt (1 : Int) y1.1) then
      Option.bind (y0.1[0]?) fun x3 =>
      some (x3 == (48 : UInt8))
    else
    some Bool.false) fun b4 =>
  bif b4 then
    some (([] : List UInt8), Bool.false, ())
  else
  bif ((Go.Iv.ile (0 : Int) y1.1) && (Go.Iv.ile y1.1 (len y0.1))) then
  some ((List.take ((List.length y0.1) - (Int.toNat y1.1)) (List.drop (Int.toNat y1.1) y0.1)), Bool.true, ())
  else none
noncomputable def wholeS_it : FnIt := ⟨19, [(false, .str)], [(false, .str), (false, .bool)], 3, fun n x => wholeS n x.1⟩
theorem wholeS_ok (n : Nat) : FnOK Go.Proofs.Tryd.prog hint shT wholeS_it n :=
  FnOK.of (hk := fun β => (Known.mk [countS_it, trimPrefix_it] []).hk β) (sh := shT) (fun m _ => KnownOK.hook ((KnownOK.nil.fn trimPrefix_ok).fn countS_ok) m) (fun x => by kernel_rfl)

noncomputable def fractionS (n : Nat) (s : List UInt8) : Option ((List UInt8) × (Bool × Unit)) :=
  Option.bind (cutPrefix n s ([(46 : UInt8)] : List UInt8)) fun y0 =>
  bif (!y0.2.1) then
    some (s, Bool.true, ())
  else
  Option.bind (countS (n + 1) y0.1) fun y1 =>
  bif ((Go.Iv.ile (0 : Int) y1.1) && (Go.Iv.ile y1.1 (len y0.1))) then
  some ((List.take ((List.length y0.1) - (Int.toNat y1.1)) (List.drop (Int.toNat y1.1) y0.1)), (Go.Iv.ilt (0 : Int) y1.1), ())
  else none
noncomputable def fractionS_it : FnIt := ⟨20, [(false, .str)], [(false, .str), (false, .bool)], 3, fun n x => fractionS n x.1⟩
theorem fractionS_ok (n : Nat) : FnOK Go.Proofs.Tryd.prog hint shT fractionS_it n :=
  FnOK.of (hk := fun β => (Known.mk [countS_it, cutPrefix_it] []).hk β) (sh := shT) (fun m _ => KnownOK.hook ((KnownOK.nil.fn cutPrefix_ok).fn countS_ok) m) (fun x => by kernel_rfl)

noncomputable def L57_2_Xexit0 : Tm := ⟨[], [(64, .arr 3 (.int .i64) true false false)], 65, 65, 1001⟩
noncomputable def L57_2_Xret : Tm := ⟨[(4, .one (.int .i64))], [(64, .arr 3 (.int .i64) true false false)], 65, 65, 1001⟩
noncomputable def L57_2_T : Tm := ⟨[(0, .one (.fix (Go.Gv.TV.all 64))), (1, .one (.int .i64)), (7, .one (.int .i64)), (8, .one (.int .i64))], [(64, .arr 3 (.int .i64) true false false)], 65, 65, 1001⟩
noncomputable def L57_2 : Nat → Int → Int → Int → (List Int) → Option ((Unit × ((List Int) × Unit)) ⊕ ((Int × Unit) × ((List Int) × Unit)))
  | 0, _, _, _, _ => none
  | n + 1, t1, t7, t8, a64 =>
    bif (Go.Iv.ilt t8 t7) then
      bif ((Go.Iv.ile (0 : Int) t8) && (Go.Iv.ilt t8 (len a64))) then
      Option.bind (a64[(Int.toNat t8)]?) fun x7 =>
      bif (t1 == x7) then
        some (.inr ((t8, ()), (a64, ())))
      else
      L57_2 n t1 t7 (Go.IntKind.wrap Go.IntKind.i64 (t8 + (1 : Int))) a64
      else none
    else
    some (.inl ((), (a64, ())))
noncomputable def L57_2_it : LoopIt := ⟨57, 2, none, L57_2_T, [(.exit 0, L57_2_Xexit0), (.ret, L57_2_Xret)], 0, fun n x => L57_2 n x.1.2.1 x.1.2.2.1 x.1.2.2.2.1 x.2.1⟩
theorem L57_2_Xexit0_ok : L57_2_Xexit0.ok Go.Proofs.Tryd.prog hint := by
  intro p hp
  simp only [L57_2_Xexit0, List.mem_cons, List.not_mem_nil, or_false] at hp
  rcases hp with rfl
  · trivial
theorem L57_2_Xret_ok : L57_2_Xret.ok Go.Proofs.Tryd.prog hint := by
  intro p hp
  simp only [L57_2_Xret, List.mem_cons, List.not_mem_nil, or_false] at hp
  rcases hp with rfl
  · trivial
theorem L57_2_T_ok : L57_2_T.ok Go.Proofs.Tryd.prog hint := by
  intro p hp
  simp only [L57_2_T, List.mem_cons, List.not_mem_nil, or_false] at hp
  rcases hp with rfl
  · trivial
theorem L57_2_ok : ∀ n, LoopOK Go.Proofs.Tryd.prog hint shT L57_2_it n :=
  LoopOK.of (hk := fun β => (Known.mk [] []).hk β) (sh := shT) (OneLoop.of (by kernel_rfl)) L57_2_T_ok ⟨⟨L57_2_Xexit0_ok, Nat.le_refl _, Nat.le_refl _⟩, ⟨L57_2_Xret_ok, Nat.le_refl _, Nat.le_refl _⟩, trivial⟩ (fun m => KnownOK.hook KnownOK.nil m)
    (fun _ => by kernel_rfl) (fun m x => by kernel_rfl)

noncomputable def exponentS (n : Nat) (s : List UInt8) : Option (Bool × Unit) :=
  bif (s == ([] : List UInt8)) then
    some (Bool.true, ())
  else
  Option.bind (Option.bind (s[0]?) fun x1 =>
    bif (x1 != (101 : UInt8)) then
      Option.bind (s[0]?) fun x2 =>
      some (x2 != (69 : UInt8))
    else
    some Bool.false) fun b3 =>
  bif b3 then
    some (Bool.false, ())
  else
  bif (Go.Iv.ile (1 : Int) (len s)) then
  bif (!((List.take ((List.length s) - 1) (List.drop 1 s)) == ([] : List UInt8))) then
    Option.bind ((List.take ((List.length s) - 1) (List.drop 1 s))[0]?) fun x4 =>
    Option.bind (L57_2 (n + 1) (Go.IntKind.wrap Go.IntKind.i64 (ub x4)) (2 : Int) (0 : Int) ((43 : Int) :: ((45 : Int) :: ([] : List Int)))) fun y8 =>
    match y8 with
      | .inl _ =>
        Option.bind (countS (n + 2) (List.take ((List.length s) - 1) (List.drop 1 s))) fun y11 =>
        Option.bind (bif (y11.1 == (len (List.take ((List.length s) - 1) (List.drop 1 s)))) then
            bif (Go.Iv.ile (1 : Int) y11.1) then
              some (Go.Iv.ile y11.1 (9 : Int))
            else
            some Bool.false
          else
          some Bool.false) fun b13 =>
        some (b13, ())
      | .inr y10 =>
        bif (Go.Iv.ile (0 : Int) y10.1.1) then
          bif (Go.Iv.ile (1 : Int) (len (List.take ((List.length s) - 1) (List.drop 1 s)))) then
          Option.bind (countS (n + 2) (List.take ((List.length (List.take ((List.length s) - 1) (List.drop 1 s))) - 1) (List.drop 1 (List.take ((List.length s) - 1) (List.drop 1 s))))) fun y14 =>
          Option.bind (bif (y14.1 == (len (List.take ((List.length (List.take ((List.length s) - 1) (List.drop 1 s))) - 1) (List.drop 1 (List.take ((List.length s) - 1) (List.drop 1 s)))))) then
              bif (Go.Iv.ile (1 : Int) y14.1) then
                some (Go.Iv.ile y14.1 (9 : Int))
              else
              some Bool.false
            else
            some Bool.false) fun b16 =>
          some (b16, ())
          else none
        else
        Option.bind (countS (n + 2) (List.take ((List.length s) - 1) (List.drop 1 s))) fun y17 =>
        Option.bind (bif (y17.1 == (len (List.take ((List.length s) - 1) (List.drop 1 s)))) then
            bif (Go.Iv.ile (1 : Int) y17.1) then
              some (Go.Iv.ile y17.1 (9 : Int))
            else
            some Bool.false
          else
          some Bool.false) fun b19 =>
        some (b19, ())
  else
  Option.bind (countS (n + 2) (List.take ((List.length s) - 1) (List.drop 1 s))) fun y20 =>
  Option.bind (bif (y20.1 == (len (List.take ((List.length s) - 1) (List.drop 1 s)))) then
      bif (Go.Iv.ile (1 : Int) y20.1) then
        some (Go.Iv.ile y20.1 (9 : Int))
      else
      some Bool.false
    else
    some Bool.false) fun b22 =>
  some (b22, ())
  else none
noncomputable def exponentS_it : FnIt := ⟨21, [(false, .str)], [(false, .bool)], 4, fun n x => exponentS n x.1⟩
theorem exponentS_ok (n : Nat) : FnOK Go.Proofs.Tryd.prog hint shT exponentS_it n :=
  FnOK.of (hk := fun β => (Known.mk [countS_it] [L57_2_it]).hk β) (sh := shT) (fun m _ => KnownOK.hook ((KnownOK.nil.loop L57_2_ok L57_2_T_ok).fn countS_ok) m) (fun x => by kernel_rfl)

noncomputable def jsonS (n : Nat) (s : List UInt8) : Option ((List UInt8) × Unit) :=
  bif (s == ([] : List UInt8)) then
    some (([(110 : UInt8), (117 : UInt8), (108 : UInt8), (108 : UInt8)] : List UInt8), ())
  else
  bif (s == ([(110 : UInt8), (117 : UInt8), (108 : UInt8), (108 : UInt8)] : List UInt8)) then
    some (([(110 : UInt8), (117 : UInt8), (108 : UInt8), (108 : UInt8)] : List UInt8), ())
  else
  bif (s == ([(116 : UInt8), (114 : UInt8), (117 : UInt8), (101 : UInt8)] : List UInt8)) then
    some (([(98 : UInt8), (111 : UInt8), (111 : UInt8), (108 : UInt8)] : List UInt8), ())
  else
  bif (s == ([(102 : UInt8), (97 : UInt8), (108 : UInt8), (115 : UInt8), (101 : UInt8)] : List UInt8)) then
    some (([(98 : UInt8), (111 : UInt8), (111 : UInt8), (108 : UInt8)] : List UInt8), ())
  else
  Option.bind (wholeS (n + 1) s) fun y0 =>
  Option.bind (bif (Go.Iv.ilt (5000 : Int) (len s)) then
      some Bool.true
    else
    some (!y0.2.1)) fun b2 =>
  bif b2 then
    some (([(115 : UInt8), (116 : UInt8), (114 : UInt8)] : List UInt8), ())
  else
  bif (y0.1 == ([] : List UInt8)) then
    some (([(105 : UInt8), (110 : UInt8), (116 : UInt8)] : List UInt8), ())
  else
  Option.bind (fractionS (n + 1) y0.1) fun y3 =>
  bif y3.2.1 then
    Option.bind (exponentS n y3.1) fun y4 =>
    bif y4.1 then
      some (([(102 : UInt8), (108 : UInt8), (111 : UInt8), (97 : UInt8), (116 : UInt8)] : List UInt8), ())
    else
    some (([(115 : UInt8), (116 : UInt8), (114 : UInt8)] : List UInt8), ())
  else
  some (([(115 : UInt8), (116 : UInt8), (114 : UInt8)] : List UInt8), ())
noncomputable def jsonS_it : FnIt := ⟨13, [(false, .str)], [(false, .str)], 5, fun n x => jsonS n x.1⟩
theorem jsonS_ok (n : Nat) : FnOK Go.Proofs.Tryd.prog hint shT jsonS_it n :=
  FnOK.of (hk := fun β => (Known.mk [exponentS_it, fractionS_it, wholeS_it] []).hk β) (sh := shT) (fun m _ => KnownOK.hook (((KnownOK.nil.fn wholeS_ok).fn fractionS_ok).fn exponentS_ok) m) (fun x => by kernel_rfl)

noncomputable def defaultS (_n : Nat) (kind : Int) : Option ((List UInt8) × Unit) :=
  bif (kind == (1 : Int)) then
    some (([(116 : UInt8), (97 : UInt8), (103 : UInt8), (58 : UInt8), (121 : UInt8), (97 : UInt8), (109 : UInt8), (108 : UInt8), (46 : UInt8), (111 : UInt8), (114 : UInt8), (103 : UInt8), (44 : UInt8), (50 : UInt8), (48 : UInt8), (48 : UInt8), (50 : UInt8), (58 : UInt8), (115 : UInt8), (116 : UInt8), (114 : UInt8)] : List UInt8), ())
  else
  bif (kind == (2 : Int)) then
    some (([(116 : UInt8), (97 : UInt8), (103 : UInt8), (58 : UInt8), (121 : UInt8), (97 : UInt8), (109 : UInt8), (108 : UInt8), (46 : UInt8), (111 : UInt8), (114 : UInt8), (103 : UInt8), (44 : UInt8), (50 : UInt8), (48 : UInt8), (48 : UInt8), (50 : UInt8), (58 : UInt8), (115 : UInt8), (101 : UInt8), (113 : UInt8)] : List UInt8), ())
  else
  bif (kind == (3 : Int)) then
    some (([(116 : UInt8), (97 : UInt8), (103 : UInt8), (58 : UInt8), (121 : UInt8), (97 : UInt8), (109 : UInt8), (108 : UInt8), (46 : UInt8), (111 : UInt8), (114 : UInt8), (103 : UInt8), (44 : UInt8), (50 : UInt8), (48 : UInt8), (48 : UInt8), (50 : UInt8), (58 : UInt8), (109 : UInt8), (97 : UInt8), (112 : UInt8)] : List UInt8), ())
  else
  some (([] : List UInt8), ())
noncomputable def defaultS_it : FnIt := ⟨11, [(false, (.int .i64))], [(false, .str)], 0, fun n x => defaultS n x.1⟩
theorem defaultS_ok (n : Nat) : FnOK Go.Proofs.Tryd.prog hint shT defaultS_it n :=
  FnOK.of (hk := fun β => (Known.mk [] []).hk β) (sh := shT) (fun m _ => KnownOK.hook KnownOK.nil m) (fun x => by kernel_rfl)

noncomputable def resolveS (n : Nat) (kind : Int) (tag : List UInt8) (s : List UInt8) (pl : Bool) (which : Int) : Option ((List UInt8) × Unit) :=
  Option.bind (bif (!(tag == ([] : List UInt8))) then
      some (!(tag == ([(33 : UInt8)] : List UInt8)))
    else
    some Bool.false) fun b1 =>
  bif b1 then
    some (tag, ())
  else
  Option.bind (bif (tag == ([(33 : UInt8)] : List UInt8)) then
      some Bool.true
    else
    bif (kind != (1 : Int)) then
      some Bool.true
    else
    some (!pl)) fun b3 =>
  bif b3 then
    Option.bind (defaultS (n + 8) kind) fun y4 =>
    some (y4.1, ())
  else
  bif (which == (2 : Int)) then
    Option.bind (coreS n s) fun y5 =>
    bif (room ((List.length ([(116 : UInt8), (97 : UInt8), (103 : UInt8), (58 : UInt8), (121 : UInt8), (97 : UInt8), (109 : UInt8), (108 : UInt8), (46 : UInt8), (111 : UInt8), (114 : UInt8), (103 : UInt8), (44 : UInt8), (50 : UInt8), (48 : UInt8), (48 : UInt8), (50 : UInt8), (58 : UInt8)] : List UInt8)) + (List.length y5.1))) then
    some ((([(116 : UInt8), (97 : UInt8), (103 : UInt8), (58 : UInt8), (121 : UInt8), (97 : UInt8), (109 : UInt8), (108 : UInt8), (46 : UInt8), (111 : UInt8), (114 : UInt8), (103 : UInt8), (44 : UInt8), (50 : UInt8), (48 : UInt8), (48 : UInt8), (50 : UInt8), (58 : UInt8)] : List UInt8) ++ y5.1), ())
    else none
  else
  bif (which == (1 : Int)) then
    Option.bind (jsonS (n + 3) s) fun y6 =>
    bif (room ((List.length ([(116 : UInt8), (97 : UInt8), (103 : UInt8), (58 : UInt8), (121 : UInt8), (97 : UInt8), (109 : UInt8), (108 : UInt8), (46 : UInt8), (111 : UInt8), (114 : UInt8), (103 : UInt8), (44 : UInt8), (50 : UInt8), (48 : UInt8), (48 : UInt8), (50 : UInt8), (58 : UInt8)] : List UInt8)) + (List.length y6.1))) then
    some ((([(116 : UInt8), (97 : UInt8), (103 : UInt8), (58 : UInt8), (121 : UInt8), (97 : UInt8), (109 : UInt8), (108 : UInt8), (46 : UInt8), (111 : UInt8), (114 : UInt8), (103 : UInt8), (44 : UInt8), (50 : UInt8), (48 : UInt8), (48 : UInt8), (50 : UInt8), (58 : UInt8)] : List UInt8) ++ y6.1), ())
    else none
  else
  Option.bind (defaultS (n + 8) kind) fun y7 =>
  some (y7.1, ())
noncomputable def resolveS_it : FnIt := ⟨7, [(false, (.int .i64)), (false, .str), (false, .str), (false, .bool), (false, (.int .i64))], [(false, .str)], 9, fun n x => resolveS n x.1 x.2.1 x.2.2.1 x.2.2.2.1 x.2.2.2.2.1⟩
theorem resolveS_ok (n : Nat) : FnOK Go.Proofs.Tryd.prog hint shT resolveS_it n :=
  FnOK.of (hk := fun β => (Known.mk [jsonS_it, coreS_it, defaultS_it] []).hk β) (sh := shT) (fun m _ => KnownOK.hook (((KnownOK.nil.fn defaultS_ok).fn coreS_ok).fn jsonS_ok) m) (fun x => by kernel_rfl)

noncomputable def floatS (n : Nat) (s : List UInt8) : Option ((Bool × (List UInt8 × (Int × Int))) × (Bool × Unit)) :=
  Option.bind (float n s) fun y0 =>
  bif y0.2.1 then
    some ((y0.1.1, (y0.1.2.1, (y0.1.2.2.1, y0.1.2.2.2))), Bool.true, ())
  else
  Option.bind (int (n + 2) s) fun y1 =>
  some ((y1.1.1, (y1.1.2.1, (y1.1.2.2.1, y1.1.2.2.2))), y1.2.1, ())
noncomputable def floatS_it : FnIt := ⟨17, [(false, .str)], [(true, (.cons .bool (.cons .str (.cons (.int .i64) (.int .i64))))), (false, .bool)], 8, fun n x => floatS n x.1⟩
theorem floatS_ok (n : Nat) : FnOK Go.Proofs.Tryd.prog hint shT floatS_it n :=
  FnOK.of (hk := fun β => (Known.mk [int_it, float_it] []).hk β) (sh := shT) (fun m _ => KnownOK.hook ((KnownOK.nil.fn float_ok).fn int_ok) m) (fun x => by kernel_rfl)

noncomputable def valueS (n : Nat) (tag : List UInt8) (s : List UInt8) : Option ((Int × (Bool × ((Bool × (List UInt8 × (Int × Int))) × List UInt8))) × (Int × Unit)) :=
  bif (tag == ([(116 : UInt8), (97 : UInt8), (103 : UInt8), (58 : UInt8), (121 : UInt8), (97 : UInt8), (109 : UInt8), (108 : UInt8), (46 : UInt8), (111 : UInt8), (114 : UInt8), (103 : UInt8), (44 : UInt8), (50 : UInt8), (48 : UInt8), (48 : UInt8), (50 : UInt8), (58 : UInt8), (110 : UInt8), (117 : UInt8), (108 : UInt8), (108 : UInt8)] : List UInt8)) then
    Option.bind (nullS (n + 8) s) fun y0 =>
    bif (!y0.1) then
      some (((0 : Int), (Bool.false, ((Bool.false, (([] : List UInt8), ((0 : Int), (0 : Int)))), ([] : List UInt8)))), (15 : Int), ())
    else
    some (((1 : Int), (Bool.false, ((Bool.false, (([] : List UInt8), ((0 : Int), (0 : Int)))), ([] : List UInt8)))), (0 : Int), ())
  else
  bif (tag == ([(116 : UInt8), (97 : UInt8), (103 : UInt8), (58 : UInt8), (121 : UInt8), (97 : UInt8), (109 : UInt8), (108 : UInt8), (46 : UInt8), (111 : UInt8), (114 : UInt8), (103 : UInt8), (44 : UInt8), (50 : UInt8), (48 : UInt8), (48 : UInt8), (50 : UInt8), (58 : UInt8), (98 : UInt8), (111 : UInt8), (111 : UInt8), (108 : UInt8)] : List UInt8)) then
    Option.bind (truthS (n + 8) s) fun y1 =>
    bif (!y1.2.1) then
      some (((0 : Int), (Bool.false, ((Bool.false, (([] : List UInt8), ((0 : Int), (0 : Int)))), ([] : List UInt8)))), (15 : Int), ())
    else
    some (((2 : Int), (y1.1, ((Bool.false, (([] : List UInt8), ((0 : Int), (0 : Int)))), ([] : List UInt8)))), (0 : Int), ())
  else
  bif (tag == ([(116 : UInt8), (97 : UInt8), (103 : UInt8), (58 : UInt8), (121 : UInt8), (97 : UInt8), (109 : UInt8), (108 : UInt8), (46 : UInt8), (111 : UInt8), (114 : UInt8), (103 : UInt8), (44 : UInt8), (50 : UInt8), (48 : UInt8), (48 : UInt8), (50 : UInt8), (58 : UInt8), (105 : UInt8), (110 : UInt8), (116 : UInt8)] : List UInt8)) then
    Option.bind (int (n + 3) s) fun y2 =>
    bif (!y2.2.1) then
      some (((0 : Int), (Bool.false, ((Bool.false, (([] : List UInt8), ((0 : Int), (0 : Int)))), ([] : List UInt8)))), (15 : Int), ())
    else
    some (((3 : Int), (Bool.false, ((y2.1.1, (y2.1.2.1, (y2.1.2.2.1, y2.1.2.2.2))), ([] : List UInt8)))), (0 : Int), ())
  else
  bif (tag == ([(116 : UInt8), (97 : UInt8), (103 : UInt8), (58 : UInt8), (121 : UInt8), (97 : UInt8), (109 : UInt8), (108 : UInt8), (46 : UInt8), (111 : UInt8), (114 : UInt8), (103 : UInt8), (44 : UInt8), (50 : UInt8), (48 : UInt8), (48 : UInt8), (50 : UInt8), (58 : UInt8), (102 : UInt8), (108 : UInt8), (111 : UInt8), (97 : UInt8), (116 : UInt8)] : List UInt8)) then
    Option.bind (floatS n s) fun y3 =>
    bif (!y3.2.1) then
      some (((0 : Int), (Bool.false, ((Bool.false, (([] : List UInt8), ((0 : Int), (0 : Int)))), ([] : List UInt8)))), (15 : Int), ())
    else
    some (((4 : Int), (Bool.false, ((y3.1.1, (y3.1.2.1, (y3.1.2.2.1, y3.1.2.2.2))), ([] : List UInt8)))), (0 : Int), ())
  else
  some (((5 : Int), (Bool.false, ((Bool.false, (([] : List UInt8), ((0 : Int), (0 : Int)))), s))), (0 : Int), ())
noncomputable def valueS_it : FnIt := ⟨8, [(false, .str), (false, .str)], [(true, (.cons (.int .i64) (.cons .bool (.cons (.cons .bool (.cons .str (.cons (.int .i64) (.int .i64)))) .str)))), (false, (.int .i64))], 9, fun n x => valueS n x.1 x.2.1⟩
theorem valueS_ok (n : Nat) : FnOK Go.Proofs.Tryd.prog hint shT valueS_it n :=
  FnOK.of (hk := fun β => (Known.mk [floatS_it, int_it, truthS_it, nullS_it] []).hk β) (sh := shT) (fun m _ => KnownOK.hook ((((KnownOK.nil.fn nullS_ok).fn truthS_ok).fn int_ok).fn floatS_ok) m) (fun x => by kernel_rfl)


end Go.Proofs.YtbkdijjliabfdaaDoor

/- Law 5: signs, beginnings, runs of digits, noughts left off. -/
namespace Go.Proofs.YtbkdijjliabfdaaDoor
open Go Go.Iv Go.Gv
set_option linter.unusedSimpArgs false
set_option linter.unusedVariables false

theorem take_all {α : Type} (l : List α) (k : Nat) : List.take (l.length - k) (List.drop k l) = List.drop k l := by
  rw [List.take_of_length_le]; rw [List.length_drop]; exact Nat.le_refl _
theorem roomle {n : Nat} (h : n ≤ 1000000) : room n = true := room_ok (Nat.le_trans h (by decide))

/-! ### Beginnings -/
def pre : List UInt8 → List UInt8 → Bool
  | [], _ => true
  | _ :: _, [] => false
  | a :: r, b :: s => (b == a) && pre r s
theorem pre_len : ∀ (x s : List UInt8), pre x s = true → x.length ≤ s.length
  | [], _, _ => Nat.zero_le _
  | _ :: _, [], h => by cases h
  | a :: r, b :: s, h => by
    simp only [pre, Bool.and_eq_true] at h
    have := pre_len r s h.2
    simp only [List.length_cons]; omega
theorem pre_take : ∀ (x s : List UInt8), x.length ≤ s.length → (List.take x.length s == x) = pre x s
  | [], _, _ => rfl
  | _ :: _, [], h => by simp at h
  | a :: r, b :: s, h => by
    simp only [List.length_cons] at h
    have := pre_take r s (by omega)
    simp only [List.length_cons, List.take_succ_cons, pre, ← this]
    rfl
theorem pre_short : ∀ (x s : List UInt8), s.length < x.length → pre x s = false
  | [], _, h => by simp at h
  | _ :: _, [], h => rfl
  | a :: r, b :: s, h => by
    simp only [List.length_cons] at h
    simp only [pre, pre_short r s (by omega), Bool.and_false]
theorem hasPrefixL_spec (n : Nat) (s x : List UInt8) : hasPrefixL n s x = some (pre x s, ()) := by
  unfold hasPrefixL len
  by_cases h : x.length ≤ s.length
  · simp only [ile_t (show ((x.length : Nat) : Int) ≤ (s.length : Nat) by omega), cond_true, List.drop_zero, Nat.sub_zero, Int.toNat_natCast, pre_take x s h]
  · simp only [ile_f (show ((s.length : Nat) : Int) < (x.length : Nat) by omega), cond_false, pre_short x s (by omega)]
theorem hasPrefix_spec (n : Nat) (s x : List UInt8) : hasPrefix n s x = some (pre x s, ()) := by
  unfold hasPrefix; rw [hasPrefixL_spec]; rfl
theorem trimPrefix_spec (n : Nat) (s x : List UInt8) : trimPrefix n s x = some (bif pre x s then List.drop x.length s else s, ()) := by
  unfold trimPrefix len; rw [hasPrefixL_spec]
  cases h : pre x s with
  | false => rfl
  | true =>
    have := pre_len x s h
    simp only [Option.bind_some, cond_true, ile_t (show ((x.length : Nat) : Int) ≤ (s.length : Nat) by omega), Int.toNat_natCast, take_all]
theorem cutPrefix_spec (n : Nat) (s x : List UInt8) : cutPrefix n s x = some (bif pre x s then List.drop x.length s else s, pre x s, ()) := by
  unfold cutPrefix len; rw [hasPrefixL_spec]
  cases h : pre x s with
  | false => rfl
  | true =>
    have := pre_len x s h
    simp only [Option.bind_some, Bool.not_true, cond_false, cond_true, ile_t (show ((x.length : Nat) : Int) ≤ (s.length : Nat) by omega), Int.toNat_natCast, take_all]

/-! ### Signs -/
def sgn : List UInt8 → List UInt8 × Bool
  | [] => ([], false)
  | c :: r => bif c == 45 then (r, true) else bif c == 43 then (r, false) else (c :: r, false)
theorem pre1 (a c : UInt8) (r : List UInt8) : pre [a] (c :: r) = (c == a) := by simp only [pre, Bool.and_true]
theorem signed_spec (n : Nat) (s : List UInt8) : signed n s = some ((sgn s).1, (sgn s).2, ()) := by
  unfold signed; rw [hasPrefix_spec, trimPrefix_spec]
  cases s with
  | nil => rfl
  | cons c r =>
    simp only [Option.bind_some, pre1, sgn, take_all, ile_t (show (1 : Int) ≤ len (c :: r) by simp only [len, List.length_cons]; omega)]
    cases c == 45 <;> cases c == 43 <;> rfl
theorem sgn_len (s : List UInt8) : (sgn s).1.length ≤ s.length := by
  cases s with
  | nil => exact Nat.le_refl _
  | cons c r =>
    simp only [sgn]
    cases c == 45 <;> cases c == 43 <;> simp

/-! ### Runs of digits -/
def dig (c : UInt8) : Bool := Nat.ble 48 c.toNat && Nat.ble c.toNat 57
def run (s : List UInt8) : List UInt8 := s.takeWhile dig
theorem run_len (s : List UInt8) : (run s).length ≤ s.length := (List.takeWhile_prefix dig).length_le
theorem count_loop (s : List UInt8) : ∀ (m i n : Nat), i + m = s.length → s.length ≤ 1000000 → m + 1 ≤ n → L27_2 n s (i : Int) = some ((((i + (run (s.drop i)).length : Nat) : Int), ()), ()) := by
  intro m
  induction m with
  | zero =>
    intro i n h hs hn
    obtain ⟨n, rfl⟩ : ∃ k, n = k + 1 := ⟨n - 1, by omega⟩
    simp only [L27_2, len, ilt_f (show ((s.length : Nat) : Int) ≤ (i : Int) by omega), cond_false, Option.bind_some, List.drop_eq_nil_of_le (show s.length ≤ i by omega)]
    rfl
  | succ m ih =>
    intro i n h hs hn
    obtain ⟨n, rfl⟩ : ∃ k, n = k + 1 := ⟨n - 1, by omega⟩
    have hi : i < s.length := by omega
    have w : IntKind.wrap .i64 ((i : Int) + 1) = ((i + 1 : Nat) : Int) := by rw [wrap_id] <;> omega
    have z : Go.Iv.ile (0 : Int) (i : Int) = true := ile_t (by omega)
    rw [List.drop_eq_getElem_cons hi]
    simp only [L27_2, len, ilt_t (show (i : Int) < ((s.length : Nat) : Int) by omega), z, cond_true, Int.toNat_natCast, List.getElem?_eq_getElem hi, Option.bind_some, w]
    generalize hc : s[i] = c
    simp only [run, List.takeWhile, dig]
    have e1 : UInt8.toNat 48 = 48 := rfl
    have e2 : UInt8.toNat 57 = 57 := rfl
    rw [e1, e2]
    cases h1 : Nat.ble 48 c.toNat with
    | false => simp only [cond_false, Option.bind_some, Bool.false_and]; rfl
    | true =>
      simp only [cond_true, Option.bind_some, Bool.true_and]
      cases h2 : Nat.ble c.toNat 57 with
      | false => simp only [cond_false]; rfl
      | true =>
        simp only [cond_true]
        rw [ih (i + 1) n (by omega) hs (by omega)]
        simp only [run, List.length_cons]
        congr 4; omega
theorem count_spec (n : Nat) (s : List UInt8) (hs : s.length ≤ 1000000) (hn : s.length ≤ n) : count n s = some (((run s).length : Int), ()) := by
  unfold count
  have := count_loop s s.length 0 (n + 1) (by omega) hs (by omega)
  rw [show (0 : Int) = ((0 : Nat) : Int) from rfl, this, List.drop_zero, Nat.zero_add]
  rfl
theorem run_take (s : List UInt8) : s.take (run s).length = run s := by
  have h := (List.takeWhile_prefix dig (l := s))
  exact (List.prefix_iff_eq_take.1 h).symm
theorem tlb (n : Nat) (c : UInt8) : ∀ (s : List UInt8) (n : Nat), s.length + 1 ≤ n → L48_1 n s c = some ((s.dropWhile (· == c), ()), ())
  | [], n, h => by
    obtain ⟨n, rfl⟩ : ∃ k, n = k + 1 := ⟨n - 1, by omega⟩
    rfl
  | x :: r, n, h => by
    obtain ⟨n, rfl⟩ : ∃ k, n = k + 1 := ⟨n - 1, by omega⟩
    simp only [List.length_cons] at h
    simp only [L48_1, len, ilt_t (show (0 : Int) < (((x :: r).length : Nat) : Int) by simp only [List.length_cons]; omega), ile_t (show (1 : Int) ≤ (((x :: r).length : Nat) : Int) by simp only [List.length_cons]; omega),
      cond_true, List.getElem?_cons_zero, Option.bind_some, take_all, List.dropWhile]
    cases x == c with
    | false => rfl
    | true => exact tlb n c r n (by omega)
theorem trimLeftByte_spec (n : Nat) (s : List UInt8) (c : UInt8) (hn : s.length ≤ n) : trimLeftByte n s c = some (s.dropWhile (· == c), ()) := by
  unfold trimLeftByte; rw [tlb 0 c s (n + 1) (by omega)]; rfl

/-- Without the last ones. -/
def trimR (s : List UInt8) : List UInt8 := (s.reverse.dropWhile (· == 48)).reverse
theorem trimR_concat (s : List UInt8) (x : UInt8) : trimR (s ++ [x]) = bif x == 48 then trimR s else s ++ [x] := by
  unfold trimR
  rw [List.reverse_append]
  simp only [List.reverse_cons, List.reverse_nil, List.nil_append, List.singleton_append, List.dropWhile]
  cases x == 48 with
  | false => simp
  | true => rfl
theorem trimR_len (s : List UInt8) : (trimR s).length ≤ s.length := by
  unfold trimR
  rw [List.length_reverse]
  have := (List.dropWhile_suffix (· == (48 : UInt8)) (l := s.reverse)).length_le
  rwa [List.length_reverse] at this
theorem last_cases {α : Type} (s : List α) : s = [] ∨ ∃ r x, s = r ++ [x] := by
  rcases List.eq_nil_or_concat s with h | ⟨r, x, h⟩
  · exact .inl h
  · exact .inr ⟨r, x, by rw [h, List.concat_eq_append]⟩
theorem trb : ∀ (m : Nat) (s : List UInt8) (n : Nat), s.length = m → s.length ≤ 1000000 → m + 1 ≤ n → L52_1 n s 48 = some ((trimR s, ()), ()) := by
  intro m
  induction m with
  | zero =>
    intro s n h _ hn
    obtain ⟨n, rfl⟩ : ∃ k, n = k + 1 := ⟨n - 1, by omega⟩
    cases s with
    | nil => rfl
    | cons => cases h
  | succ m ih =>
    intro s n h hs hn
    obtain ⟨n, rfl⟩ : ∃ k, n = k + 1 := ⟨n - 1, by omega⟩
    rcases last_cases s with rfl | ⟨r, x, rfl⟩
    · cases h
    have hl : (r ++ [x]).length = r.length + 1 := by simp
    rw [hl] at h hs
    have w : IntKind.wrap .i64 ((((r.length + 1 : Nat)) : Int) - 1) = (r.length : Int) := by rw [wrap_id] <;> omega
    have hg : (r ++ [x])[r.length]? = some x := by simp
    simp only [L52_1, len, hl, w, ilt_t (show (0 : Int) < ((r.length + 1 : Nat) : Int) by omega), ile_t (show (0 : Int) ≤ (r.length : Int) by omega), ile_t (show (r.length : Int) ≤ ((r.length + 1 : Nat) : Int) by omega), cond_true, Int.toNat_natCast, hg, Option.bind_some, Bool.and_self, Nat.sub_zero, List.drop_zero,
      trimR_concat, List.take_left]
    cases x == 48 with
    | false => rfl
    | true => exact ih r n (by omega) (by omega) (by omega)
theorem trimRightByte_spec (n : Nat) (s : List UInt8) (hs : s.length ≤ 1000000) (hn : s.length ≤ n) : trimRightByte n s 48 = some (trimR s, ()) := by
  unfold trimRightByte; rw [trb _ s (n + 1) rfl hs (by omega)]; rfl
end Go.Proofs.YtbkdijjliabfdaaDoor

/- Law 5: numbers without noughts at their ends. -/
namespace Go.Proofs.YtbkdijjliabfdaaDoor
open Go Go.Iv Go.Gv
set_option linter.unusedSimpArgs false
set_option linter.unusedVariables false

abbrev Num := Bool × (List UInt8 × (Int × Int))
def nought (b : Bool) : Num := (b, ([48], (0, 0)))
def tl (d : List UInt8) : List UInt8 := d.dropWhile (· == 48)
def norm (b : Bool) (d : List UInt8) (e : Int) : Num :=
  bif (trimR (tl d)).isEmpty then nought b else (b, (trimR (tl d), (e + (len (tl d) - len (trimR (tl d))), 0)))
theorem beq_nil (l : List UInt8) : (l == ([] : List UInt8)) = l.isEmpty := by cases l <;> rfl
theorem tl_len (d : List UInt8) : (tl d).length ≤ d.length := (List.dropWhile_suffix (· == (48 : UInt8)) (l := d)).length_le
theorem bindb {α : Type} (b : Bool) (f : Bool → Option α) : (Option.bind (bif b then some Bool.true else some Bool.false) f) = f b := by cases b <;> rfl

theorem whole_spec (n : Nat) (b : Bool) (d : List UInt8) (e : Int) (h1 : -1000000000000 ≤ e) (h2 : e ≤ 1000000000000) (hs : d.length ≤ 1000000) (hn : d.length ≤ n) :
    whole n b d e = some (norm b d e, ()) := by
  have l1 := tl_len d
  have l2 := trimR_len (tl d)
  unfold whole
  simp only [bindb, beq_nil]
  cases h : d.isEmpty with
  | true =>
    have : d = [] := by cases d with
      | nil => rfl
      | cons => cases h
    subst this
    rfl
  | false =>
    simp only [cond_false]
    rw [trimLeftByte_spec n d 48 hn]
    simp only [Option.bind_some]
    show (bif (tl d).isEmpty then _ else _) = _
    change (bif (tl d).isEmpty then (bif (tl d).isEmpty then some (nought b, ()) else some ((b, (tl d, (_, 0))), ())) else Option.bind (trimRightByte n (tl d) 48) _) = _
    cases h3 : (tl d).isEmpty with
    | true =>
      have : tl d = [] := by cases h4 : tl d with
        | nil => rfl
        | cons => rw [h4] at h3; cases h3
      simp only [cond_true]
      unfold norm
      rw [this]; rfl
    | false =>
      simp only [cond_false]
      rw [trimRightByte_spec n (tl d) (by omega) (by omega)]
      simp only [Option.bind_some]
      unfold norm
      have w1 : IntKind.wrap .i64 (e + len (tl d)) = e + len (tl d) := by unfold len; rw [wrap_id] <;> omega
      have w2 : IntKind.wrap .i64 (e + len (tl d) - len (trimR (tl d))) = e + (len (tl d) - len (trimR (tl d))) := by unfold len; rw [wrap_id] <;> omega
      have hd : List.dropWhile (fun x => x == 48) d = tl d := rfl
      rw [hd, w1, w2]
      cases (trimR (tl d)).isEmpty <;> rfl

/-! ### The reference's -/
def strip : List UInt8 → List UInt8
  | [] => []
  | [x] => [x]
  | x :: y :: r => bif x == 48 then strip (y :: r) else x :: y :: r
theorem strip_tl : ∀ (s : List UInt8), ((tl s).isEmpty = true → strip s = [] ∨ strip s = [48]) ∧ ((tl s).isEmpty = false → strip s = tl s)
  | [] => ⟨fun _ => .inl rfl, fun h => by cases h⟩
  | [x] => by
    unfold tl strip
    simp only [List.dropWhile]
    cases h : x == 48 with
    | false => exact ⟨fun h => (by cases h), fun _ => rfl⟩
    | true => exact ⟨fun _ => .inr (by rw [beq_iff_eq.1 h]), fun h => by cases h⟩
  | x :: y :: r => by
    have ih := strip_tl (y :: r)
    unfold tl at ih ⊢
    rw [List.dropWhile, strip]
    cases h : x == 48 with
    | false => exact ⟨fun h => (by cases h), fun _ => rfl⟩
    | true => exact ih
theorem tl_head (s : List UInt8) (x : UInt8) (r : List UInt8) (h : tl s = x :: r) : (x == 48) = false := by
  induction s with
  | nil => cases h
  | cons y s ih =>
    unfold tl at h ih
    rw [List.dropWhile] at h
    cases hy : y == 48 with
    | true => rw [hy] at h; exact ih h
    | false =>
      rw [hy] at h
      injection h with h1 h2
      rw [← h1]; exact hy
theorem trimR_cons (x : UInt8) (r : List UInt8) (h : (x == 48) = false) : (trimR (x :: r)).isEmpty = false := by
  unfold trimR
  rw [List.reverse_cons, List.dropWhile_append]
  cases h2 : (r.reverse.dropWhile (· == 48)).isEmpty with
  | true =>
    rw [if_pos rfl]
    simp only [List.dropWhile, h]
    rfl
  | false =>
    rw [if_neg (by decide)]
    simp
end Go.Proofs.YtbkdijjliabfdaaDoor

/- Law 5: digits times a number. -/
namespace Go.Proofs.YtbkdijjliabfdaaDoor
open Go Go.Iv Go.Gv
set_option linter.unusedSimpArgs false
set_option linter.unusedVariables false

/-! ### Hex -/
def hv (c : UInt8) : Int := if 48 ≤ ub c ∧ ub c ≤ 57 then ub c - 48 else if 97 ≤ ub c ∧ ub c ≤ 102 then ub c - 87 else if 65 ≤ ub c ∧ ub c ≤ 70 then ub c - 55 else -1
theorem hex_spec (n : Nat) (c : UInt8) : hex n (IntKind.wrap .i64 (ub c)) = some (hv c, ()) := by
  have hb := ub_lt c
  rw [ub_wrap]
  unfold hex hv
  generalize ub c = x at *
  have e : (bif ile 48 x then some (ile x 57) else some false) = some (decide (48 ≤ x ∧ x ≤ 57)) := by
    rw [ile_eq, ile_eq]
    by_cases h1 : 48 ≤ x <;> by_cases h2 : x ≤ 57 <;> simp [h1, h2]
  have e2 : (bif ile 97 x then some (ile x 102) else some false) = some (decide (97 ≤ x ∧ x ≤ 102)) := by
    rw [ile_eq, ile_eq]
    by_cases h1 : 97 ≤ x <;> by_cases h2 : x ≤ 102 <;> simp [h1, h2]
  have e3 : (bif ile 65 x then some (ile x 70) else some false) = some (decide (65 ≤ x ∧ x ≤ 70)) := by
    rw [ile_eq, ile_eq]
    by_cases h1 : 65 ≤ x <;> by_cases h2 : x ≤ 70 <;> simp [h1, h2]
  rw [e, e2, e3]
  have w1 : IntKind.wrap .i64 (x - 48) = x - 48 := by rw [wrap_id] <;> omega
  have w2 : IntKind.wrap .i64 (IntKind.wrap .i64 (x - 97) + 10) = x - 87 := by rw [wrap_id (x := x - 97), wrap_id] <;> omega
  have w3 : IntKind.wrap .i64 (IntKind.wrap .i64 (x - 65) + 10) = x - 55 := by rw [wrap_id (x := x - 65), wrap_id] <;> omega
  rw [w1, w2, w3]
  by_cases h1 : 48 ≤ x ∧ x ≤ 57
  · rw [if_pos h1, decide_eq_true h1]; rfl
  by_cases h2 : 97 ≤ x ∧ x ≤ 102
  · rw [if_neg h1, decide_eq_false h1, if_pos h2, decide_eq_true h2]; rfl
  by_cases h3 : 65 ≤ x ∧ x ≤ 70
  · rw [if_neg h1, decide_eq_false h1, if_neg h2, decide_eq_false h2, if_pos h3, decide_eq_true h3]; rfl
  rw [if_neg h1, decide_eq_false h1, if_neg h2, decide_eq_false h2, if_neg h3, decide_eq_false h3]; rfl
theorem hv_lt (c : UInt8) : -1 ≤ hv c ∧ hv c ≤ 15 := by
  unfold hv
  split
  · omega
  split
  · omega
  split <;> omega
theorem hv_dig (c : UInt8) : (0 ≤ hv c ∧ hv c < 10) ↔ dig c = true := by
  have e : dig c = true ↔ (48 ≤ ub c ∧ ub c ≤ 57) := by
    unfold dig ub
    rw [Bool.and_eq_true, Nat.ble_eq, Nat.ble_eq]; omega
  rw [e]
  unfold hv
  split
  · omega
  split
  · omega
  split <;> omega
theorem hv_ub (c : UInt8) (h : dig c = true) : hv c = ub c - 48 := by
  have e : (48 ≤ ub c ∧ ub c ≤ 57) := by
    unfold dig at h; unfold ub
    rw [Bool.and_eq_true, Nat.ble_eq, Nat.ble_eq] at h; omega
  unfold hv; rw [if_pos e]

/-! ### Digits times a number -/
def Dg (l : List Int) : Prop := ∀ x, x ∈ l → 0 ≤ x ∧ x ≤ 9
theorem Dg.nil : Dg [] := fun x h => by cases h
theorem Dg.head {x : Int} {r : List Int} (h : Dg (x :: r)) : 0 ≤ x ∧ x ≤ 9 := h x (.head _)
theorem Dg.tail {x : Int} {r : List Int} (h : Dg (x :: r)) : Dg r := fun y hy => h y (.tail _ hy)
theorem Dg.cons {x : Int} {r : List Int} (h1 : 0 ≤ x ∧ x ≤ 9) (h : Dg r) : Dg (x :: r) := fun y hy => by
  cases hy with
  | head => exact h1
  | tail _ hy => exact h y hy
theorem Dg.app {a b : List Int} (h1 : Dg a) (h2 : Dg b) : Dg (a ++ b) := fun y hy => by
  rcases List.mem_append.1 hy with h | h
  · exact h1 y h
  · exact h2 y h
theorem Dg.drop {a : List Int} (h : Dg a) (i : Nat) : Dg (a.drop i) := fun y hy => h y (List.mem_of_mem_drop hy)

def mulA (k : Int) : List Int → Int → List Int × Int
  | [], m => ([], m)
  | x :: r, m => (((m + x * k) % 10) :: (mulA k r ((m + x * k) / 10)).1, (mulA k r ((m + x * k) / 10)).2)
def carry (m : Int) : List Int := if m = 0 then [] else if m < 10 then [m % 10] else [m % 10, m / 10 % 10]
def mul (k : Int) (l : List Int) (m : Int) : List Int := (mulA k l m).1 ++ carry (mulA k l m).2
theorem prod_le {x k : Int} (h1 : 0 ≤ x ∧ x ≤ 9) (h2 : 0 ≤ k ∧ k ≤ 16) : 0 ≤ x * k ∧ x * k ≤ 144 := by
  refine ⟨Int.mul_nonneg h1.1 h2.1, ?_⟩
  have := Int.mul_le_mul h1.2 h2.2 h2.1 (by omega)
  omega
theorem mulA_ok (k : Int) (hk : 0 ≤ k ∧ k ≤ 16) : ∀ (l : List Int) (m : Int), Dg l → 0 ≤ m ∧ m ≤ 15 → Dg (mulA k l m).1 ∧ (0 ≤ (mulA k l m).2 ∧ (mulA k l m).2 ≤ 15) ∧ (mulA k l m).1.length = l.length
  | [], m, _, hm => ⟨Dg.nil, hm, rfl⟩
  | x :: r, m, hl, hm => by
    have hp := prod_le hl.head hk
    obtain ⟨i1, i2, i3⟩ := mulA_ok k hk r ((m + x * k) / 10) hl.tail (by omega)
    exact ⟨Dg.cons (by omega) i1, i2, by simp only [mulA, List.length_cons, i3]⟩
theorem carry_ok (m : Int) (hm : 0 ≤ m ∧ m ≤ 15) : Dg (carry m) ∧ (carry m).length ≤ 2 := by
  unfold carry
  split
  · exact ⟨Dg.nil, by simp⟩
  split
  · exact ⟨Dg.cons (by omega) Dg.nil, by simp⟩
  · exact ⟨Dg.cons (by omega) (Dg.cons (by omega) Dg.nil), by simp⟩
theorem mul_ok (k : Int) (hk : 0 ≤ k ∧ k ≤ 16) (l : List Int) (m : Int) (hl : Dg l) (hm : 0 ≤ m ∧ m ≤ 15) : Dg (mul k l m) ∧ (mul k l m).length ≤ l.length + 2 := by
  obtain ⟨i1, i2, i3⟩ := mulA_ok k hk l m hl hm
  obtain ⟨c1, c2⟩ := carry_ok _ i2
  refine ⟨i1.app c1, ?_⟩
  unfold mul
  rw [List.length_append]; omega

theorem carryP (k : Int) (l : List Int) (m : Int) (hm : 0 ≤ m ∧ m ≤ 15) (hs : l.length ≤ 90000) (acc : List Int) (ha : acc.length ≤ 100000) (i : Nat) (hi : l.length ≤ i) (hi2 : i ≤ 100000) (n : Nat) (hn : 3 ≤ n) :
    L35_3 n l k m acc (i : Int) = some ((acc ++ carry m, ()), ()) := by
  have st : ∀ (m : Int) (acc : List Int) (i n : Nat), 0 < m → m ≤ 15 → acc.length ≤ 100005 → l.length ≤ i → i ≤ 100005 → L35_3 (n + 1) l k m acc (i : Int) = L35_3 n l k (m / 10) (acc ++ [m % 10]) ((i + 1 : Nat) : Int) := fun m acc i n h1 h2 ha hi hi2 => by
    have w : IntKind.wrap .i64 ((i : Int) + 1) = ((i + 1 : Nat) : Int) := by rw [wrap_id] <;> omega
    have w0 : IntKind.wrap .i64 (m + IntKind.wrap .i64 (0 * k)) = m := by rw [Int.zero_mul, wrap_id (x := 0), wrap_id] <;> omega
    have w1 : IntKind.wrap .i64 (Int.tdiv m 10) = m / 10 := by rw [Int.tdiv_eq_ediv_of_nonneg (by omega), wrap_id] <;> omega
    simp only [L35_3, len, ilt_f (show ((l.length : Nat) : Int) ≤ (i : Int) by omega), ilt_t h1, cond_true, cond_false, Option.bind_some, w0, List.length_singleton, List.length_cons, List.length_nil, roomle (show (acc.length + (0 + 1)) * 9 ≤ 1000000 by omega), w, w1, Int.tmod_eq_emod_of_nonneg (show 0 ≤ m by omega)]
  have fin : ∀ (acc : List Int) (i n : Nat), l.length ≤ i → L35_3 (n + 1) l k 0 acc (i : Int) = some ((acc, ()), ()) := fun acc i n hi => by
    simp only [L35_3, len, ilt_f (show ((l.length : Nat) : Int) ≤ (i : Int) by omega), ilt_f (Int.le_refl 0), cond_false, Option.bind_some]
  obtain ⟨n, rfl⟩ : ∃ k, n = k + 3 := ⟨n - 3, by omega⟩
  unfold carry
  by_cases h0 : m = 0
  · subst h0
    rw [if_pos rfl, fin _ _ _ hi, List.append_nil]
  rw [if_neg h0, st m acc i (n + 2) (by omega) (by omega) (by omega) hi (by omega)]
  by_cases h1 : m < 10
  · rw [if_pos h1, show m / 10 = 0 by omega, fin _ _ _ (by omega)]
  · rw [if_neg h1, st (m / 10) _ (i + 1) (n + 1) (by omega) (by omega) (by simp; omega) (by omega) (by omega), show m / 10 / 10 = 0 by omega, fin _ _ _ (by omega), List.append_assoc]
    rfl
theorem mulP_loop (k : Int) (hk : 0 ≤ k ∧ k ≤ 16) (l : List Int) (hl : Dg l) (hs : l.length ≤ 90000) : ∀ (d i n : Nat) (m : Int) (acc : List Int), i + d = l.length → acc.length = i → 0 ≤ m ∧ m ≤ 15 → d + 3 ≤ n →
    L35_3 n l k m acc (i : Int) = some ((acc ++ ((mulA k (l.drop i) m).1 ++ carry (mulA k (l.drop i) m).2), ()), ()) := by
  intro d
  induction d with
  | zero =>
    intro i n m acc h ha hm hn
    rw [List.drop_eq_nil_of_le (show l.length ≤ i by omega)]
    exact carryP k l m hm hs acc (by omega) i (by omega) (by omega) n (by omega)
  | succ d ih =>
    intro i n m acc h ha hm hn
    obtain ⟨n, rfl⟩ : ∃ k, n = k + 1 := ⟨n - 1, by omega⟩
    have hi : i < l.length := by omega
    have w : IntKind.wrap .i64 ((i : Int) + 1) = ((i + 1 : Nat) : Int) := by rw [wrap_id] <;> omega
    have hp := prod_le (hl _ (List.getElem_mem hi)) hk
    have w1 : IntKind.wrap .i64 (l[i] * k) = l[i] * k := by rw [wrap_id] <;> omega
    have w2 : IntKind.wrap .i64 (m + l[i] * k) = m + l[i] * k := by rw [wrap_id] <;> omega
    have w3 : IntKind.wrap .i64 ((m + l[i] * k) / 10) = (m + l[i] * k) / 10 := by rw [wrap_id] <;> omega
    have q0 : 0 ≤ m + l[i] * k := by omega
    rw [List.drop_eq_getElem_cons hi]
    simp only [L35_3, len, ilt_t (show (i : Int) < ((l.length : Nat) : Int) by omega), ile_t (show (0 : Int) ≤ (i : Int) by omega), cond_true, Int.toNat_natCast, List.getElem?_eq_getElem hi, Option.bind_some, w, w1, w2,
      Int.tdiv_eq_ediv_of_nonneg q0, Int.tmod_eq_emod_of_nonneg q0, w3, List.length_singleton, List.length_cons, List.length_nil, roomle (show (acc.length + (0 + 1)) * 9 ≤ 1000000 by omega), mulA]
    rw [ih (i + 1) n _ _ (by omega) (by simp; omega) (by omega) (by omega), List.append_assoc]
    rfl
theorem times_spec (n : Nat) (l : List Int) (k m : Int) (hk : 0 ≤ k ∧ k ≤ 16) (hl : Dg l) (hm : 0 ≤ m ∧ m ≤ 15) (hs : l.length ≤ 90000) (hn : l.length + 3 ≤ n) :
    times n l k m = some (mul k l m, ()) := by
  unfold times
  have := mulP_loop k hk l hl hs l.length 0 n m [] (by omega) rfl hm (by omega)
  rw [List.drop_zero, List.nil_append] at this
  rw [show (0 : Int) = ((0 : Nat) : Int) from rfl, this]
  rfl
end Go.Proofs.YtbkdijjliabfdaaDoor

/- Law 5: digits as a text. -/
namespace Go.Proofs.YtbkdijjliabfdaaDoor
open Go Go.Iv Go.Gv
set_option linter.unusedSimpArgs false
set_option linter.unusedVariables false

def ch (x : Int) : UInt8 := UInt8.ofNat (Int.toNat (IntKind.wrap .u8 (IntKind.wrap .i64 (48 + x))))
theorem ch_dig (x : Int) (h : 0 ≤ x ∧ x ≤ 9) : (ch x == 48) = (x == 0) := by
  have : x = 0 ∨ x = 1 ∨ x = 2 ∨ x = 3 ∨ x = 4 ∨ x = 5 ∨ x = 6 ∨ x = 7 ∨ x = 8 ∨ x = 9 := by omega
  rcases this with rfl | rfl | rfl | rfl | rfl | rfl | rfl | rfl | rfl | rfl <;> decide
theorem ch_zero : ch 0 = 48 := by decide
theorem rev_take {α : Type} (l : List α) (i : Nat) (h : i < l.length) : (l.take (i + 1)).reverse = l[i] :: (l.take i).reverse := by
  rw [List.take_succ_eq_append_getElem h, List.reverse_append]; rfl

/-! ### The program's -/
def tx (l : List Int) : List UInt8 := bif (tl (l.reverse.map ch)).isEmpty then [48] else tl (l.reverse.map ch)
theorem text_loop (l : List Int) (hs : l.length ≤ 100000) : ∀ (i n : Nat) (acc : List UInt8), i ≤ l.length → acc.length + i ≤ 100000 → i + 1 ≤ n →
    L37_3 n l ((i : Int) - 1) acc = some (((), ()), (((), (acc ++ (l.take i).reverse.map ch, ())), ())) := by
  intro i
  induction i with
  | zero =>
    intro n acc h ha hn
    obtain ⟨n, rfl⟩ : ∃ k, n = k + 1 := ⟨n - 1, by omega⟩
    simp only [L37_3, ile_f (show ((0 : Nat) : Int) - 1 < 0 by omega), cond_false, List.take_zero, List.reverse_nil, List.map_nil, List.append_nil]
  | succ i ih =>
    intro n acc h ha hn
    obtain ⟨n, rfl⟩ : ∃ k, n = k + 1 := ⟨n - 1, by omega⟩
    have e : ((i + 1 : Nat) : Int) - 1 = (i : Int) := by omega
    have w : IntKind.wrap .i64 ((i : Int) - 1) = (i : Int) - 1 := by rw [wrap_id] <;> omega
    rw [e, rev_take l i (by omega)]
    simp only [L37_3, ile_t (show (0 : Int) ≤ (i : Int) by omega), cond_true, Int.toNat_natCast, List.getElem?_eq_getElem (show i < l.length by omega), Option.bind_some, w, List.length_singleton, List.length_cons, List.length_nil, roomle (show (acc.length + (0 + 1)) * 2 ≤ 1000000 by omega)]
    rw [ih n _ (by omega) (by simp; omega) (by omega), List.map_cons, List.append_assoc]
    rfl
theorem isEmpty_eq {α : Type} {l : List α} (h : l.isEmpty = true) : l = [] := by
  cases l with
  | nil => rfl
  | cons => cases h
theorem text_spec (n : Nat) (l : List Int) (hs : l.length ≤ 90000) (hn : l.length + 1 ≤ n) : text n l = some (tx l, ()) := by
  unfold text
  rcases last_cases l with rfl | ⟨r, x, rfl⟩
  · rfl
  have hl : (r ++ [x]).length = r.length + 1 := by simp
  have hg : (r ++ [x])[r.length]? = some x := by simp
  rw [hl] at hs hn
  have w : IntKind.wrap .i64 (((r.length + 1 : Nat) : Int) - 1) = (r.length : Int) := by rw [wrap_id] <;> omega
  have w2 : IntKind.wrap .i64 ((r.length : Int) - 1) = (r.length : Int) - 1 := by rw [wrap_id] <;> omega
  simp only [len, hl, w, w2, ile_t (show (0 : Int) ≤ (r.length : Int) by omega), cond_true, Int.toNat_natCast, hg, Option.bind_some]
  rw [text_loop (r ++ [x]) (by omega) r.length n _ (by omega) (by simp; omega) (by omega)]
  have e : List.take r.length (r ++ [x]) = r := by simp
  rw [e]
  have e2 : (UInt8.ofNat (Int.toNat (IntKind.wrap IntKind.u8 (IntKind.wrap IntKind.i64 ((48 : Int) + x))))) :: ([] : List UInt8) ++ (r.reverse.map ch) = ((r ++ [x]).reverse).map ch := by
    rw [List.reverse_append]; rfl
  rw [e2]
  unfold tx
  have hlen : (((r ++ [x]).reverse).map ch).length = r.length + 1 := by simp
  generalize ((r ++ [x]).reverse).map ch = c at *
  have hc : c.isEmpty = false := by
    cases c with
    | nil => simp at hlen
    | cons => rfl
  have hc2 : List.take c.length c = c := List.take_length
  have hb : (c == ([] : List UInt8)) = false := by rw [beq_nil]; exact hc
  simp only [Option.bind_some, hc, cond_false, ile_t (Int.le_refl _), ile_t (show ((c.length : Nat) : Int) ≤ 1099511627776 by omega), Bool.and_self, cond_true, Int.toNat_natCast, hc2, hb]
  rw [trimLeftByte_spec n c 48 (by omega)]
  simp only [Option.bind_some]
  show (bif !(tl c == ([] : List UInt8)) then some (tl c, ()) else some ([48], ())) = some (bif (tl c).isEmpty then [48] else tl c, ())
  rw [beq_nil]
  cases (tl c).isEmpty <;> rfl

/-! ### The reference's -/
def stripI : List Int → List Int
  | [] => []
  | [x] => [x]
  | x :: y :: r => bif x == 0 then stripI (y :: r) else x :: y :: r
theorem stripI_suf : ∀ (r : List Int), ∃ p, r = p ++ stripI r
  | [] => ⟨[], rfl⟩
  | [x] => ⟨[], rfl⟩
  | x :: y :: r => by
    rw [stripI]
    cases x == 0 with
    | false => exact ⟨[], rfl⟩
    | true =>
      obtain ⟨p, hp⟩ := stripI_suf (y :: r)
      exact ⟨x :: p, congrArg (x :: ·) hp⟩
theorem stripI_ch : ∀ (r : List Int), Dg r → r ≠ [] → (stripI r).map ch = bif (tl (r.map ch)).isEmpty then [48] else tl (r.map ch)
  | [], _, h => absurd rfl h
  | [x], hd, _ => by
    unfold tl
    simp only [stripI, List.map_cons, List.map_nil, List.dropWhile, ch_dig x hd.head]
    cases h : x == 0 with
    | false => rfl
    | true => rw [beq_iff_eq.1 h, ch_zero]; rfl
  | x :: y :: r, hd, _ => by
    have ih := stripI_ch (y :: r) hd.tail (by simp)
    unfold tl at ih ⊢
    rw [stripI, List.map_cons, List.dropWhile, ch_dig x hd.head]
    cases x == 0 with
    | false => rfl
    | true => exact ih
theorem set_rep {α : Type} (a v : α) (X : List α) : ∀ (j : Nat), List.set (List.replicate (j + 1) a ++ X) j v = List.replicate j a ++ v :: X
  | 0 => rfl
  | j + 1 => by
    rw [List.replicate_succ, List.cons_append, List.set_cons_succ, set_rep a v X j, List.replicate_succ, List.cons_append]
end Go.Proofs.YtbkdijjliabfdaaDoor

/- Law 5: plain digits in a base. -/
namespace Go.Proofs.YtbkdijjliabfdaaDoor
open Go Go.Iv Go.Gv
set_option linter.unusedSimpArgs false
set_option linter.unusedVariables false

def okd (base : Int) (c : UInt8) : Bool := decide (0 ≤ hv c ∧ hv c < base)
theorem okd_if (base : Int) (c : UInt8) : (bif ilt (hv c) 0 then some true else some (ile base (hv c))) = some (!okd base c) := by
  unfold okd
  by_cases h1 : hv c < 0
  · rw [ilt_t h1, decide_eq_false (by omega)]; rfl
  · rw [ilt_f (by omega), cond_false]
    by_cases h2 : base ≤ hv c
    · rw [ile_t h2, decide_eq_false (by omega)]; rfl
    · rw [ile_f (by omega), decide_eq_true (by omega)]; rfl
theorem okd_le {base : Int} (hb : base ≤ 16) {c : UInt8} (h : okd base c = true) : 0 ≤ hv c ∧ hv c ≤ 15 := by
  have := of_decide_eq_true h; omega
theorem okd_dig (c : UInt8) : okd 10 c = dig c := by
  have h := hv_dig c
  unfold okd
  cases hd : dig c with
  | true => exact decide_eq_true (h.2 hd)
  | false =>
    apply decide_eq_false
    intro h2
    have := h.1 h2
    rw [hd] at this; cases this
def fold (k : Int) : List Int → List UInt8 → List Int
  | l, [] => l
  | l, c :: r => fold k (mul k l (hv c)) r
def allD (base : Int) : List UInt8 → Bool
  | [] => true
  | c :: r => okd base c && allD base r
theorem allD_mem {base : Int} : ∀ {s : List UInt8}, allD base s = true → ∀ c, c ∈ s → okd base c = true
  | [], _, c, h => by cases h
  | x :: r, h, c, hc => by
    simp only [allD, Bool.and_eq_true] at h
    cases hc with
    | head => exact h.1
    | tail _ hc => exact allD_mem h.2 c hc
theorem fold_ok (k : Int) (hk : 0 ≤ k ∧ k ≤ 16) : ∀ (s : List UInt8) (l : List Int), Dg l → allD k s = true → Dg (fold k l s) ∧ (fold k l s).length ≤ l.length + 2 * s.length
  | [], l, hl, _ => ⟨hl, by simp [fold]⟩
  | c :: r, l, hl, h => by
    simp only [allD, Bool.and_eq_true] at h
    obtain ⟨m1, m2⟩ := mul_ok k hk l (hv c) hl (okd_le hk.2 h.1)
    obtain ⟨f1, f2⟩ := fold_ok k hk r _ m1 h.2
    exact ⟨f1, by simp only [fold, List.length_cons]; omega⟩

/-! ### The program's -/
theorem pl10 (s b : List UInt8) (l : List Int) (hs : b.length ≤ 100000) : ∀ (d i n : Nat), i + d = b.length → d + 1 ≤ n →
    L24_5 n s 10 l b (len b) (i : Int) = some (bif allD 10 (b.drop i) then .inl ((s, (10, (l, ()))), ()) else .inr (([], (false, ())), ())) := by
  intro d
  induction d with
  | zero =>
    intro i n h hn
    obtain ⟨n, rfl⟩ : ∃ k, n = k + 1 := ⟨n - 1, by omega⟩
    simp only [L24_5, len, ilt_f (show ((b.length : Nat) : Int) ≤ (i : Int) by omega), cond_false, List.drop_eq_nil_of_le (show b.length ≤ i by omega)]
    rfl
  | succ d ih =>
    intro i n h hn
    obtain ⟨n, rfl⟩ : ∃ k, n = k + 1 := ⟨n - 1, by omega⟩
    have hi : i < b.length := by omega
    have w : IntKind.wrap .i64 ((i : Int) + 1) = ((i + 1 : Nat) : Int) := by rw [wrap_id] <;> omega
    have e10 : ((10 : Int) != 10) = false := by decide
    have ih := ih (i + 1) n (by omega) (by omega)
    rw [List.drop_eq_getElem_cons hi]
    unfold len at ih ⊢
    simp only [L24_5, ilt_t (show (i : Int) < ((b.length : Nat) : Int) by omega), ile_t (show (0 : Int) ≤ (i : Int) by omega), cond_true, Int.toNat_natCast, List.getElem?_eq_getElem hi, Option.bind_some, w, hex_spec, okd_if, e10, cond_false, allD, ih]
    cases okd 10 b[i] <;> rfl
theorem plB (k : Int) (hk : 0 ≤ k ∧ k ≤ 16) (hk2 : (k != 10) = true) (s b : List UInt8) (hs : b.length ≤ 20000) : ∀ (d i n : Nat) (l : List Int), i + d = b.length → Dg l → l.length + 2 * d ≤ 40000 → 3 * d + l.length + 4 ≤ n →
    L24_5 n s k l b (len b) (i : Int) = some (bif allD k (b.drop i) then .inl ((s, (k, (fold k l (b.drop i), ()))), ()) else .inr (([], (false, ())), ())) := by
  intro d
  induction d with
  | zero =>
    intro i n l h hl hb hn
    obtain ⟨n, rfl⟩ : ∃ k, n = k + 1 := ⟨n - 1, by omega⟩
    simp only [L24_5, len, ilt_f (show ((b.length : Nat) : Int) ≤ (i : Int) by omega), cond_false, List.drop_eq_nil_of_le (show b.length ≤ i by omega)]
    rfl
  | succ d ih =>
    intro i n l h hl hb hn
    obtain ⟨n, rfl⟩ : ∃ k, n = k + 1 := ⟨n - 1, by omega⟩
    have hi : i < b.length := by omega
    have w : IntKind.wrap .i64 ((i : Int) + 1) = ((i + 1 : Nat) : Int) := by rw [wrap_id] <;> omega
    have ih := ih (i + 1) n
    rw [List.drop_eq_getElem_cons hi]
    unfold len at ih ⊢
    simp only [L24_5, ilt_t (show (i : Int) < ((b.length : Nat) : Int) by omega), ile_t (show (0 : Int) ≤ (i : Int) by omega), cond_true, Int.toNat_natCast, List.getElem?_eq_getElem hi, Option.bind_some, w, hex_spec, okd_if, hk2, allD]
    cases ho : okd k b[i] with
    | false => rfl
    | true =>
      have hm := okd_le hk.2 ho
      obtain ⟨m1, m2⟩ := mul_ok k hk l (hv b[i]) hl hm
      simp only [Bool.not_true, cond_false]
      rw [times_spec (n + 1) l k (hv b[i]) hk hl hm (by omega) (by omega)]
      simp only [Option.bind_some]
      rw [ih (mul k l (hv b[i])) (by omega) m1 (by omega) (by omega)]
      rfl
theorem of_loop (s : List UInt8) (hs : s.length ≤ 100000) (ha : allD 10 s = true) : ∀ (i n : Nat) (acc : List Int), i ≤ s.length → acc.length + i ≤ 100000 → i + 1 ≤ n →
    L36_5 n s acc ((i : Int) - 1) = some (.inl ((acc ++ (s.take i).reverse.map hv, ()), ())) := by
  intro i
  induction i with
  | zero =>
    intro n acc h hl hn
    obtain ⟨n, rfl⟩ : ∃ k, n = k + 1 := ⟨n - 1, by omega⟩
    simp only [L36_5, ile_f (show ((0 : Nat) : Int) - 1 < 0 by omega), cond_false, List.take_zero, List.reverse_nil, List.map_nil, List.append_nil]
  | succ i ih =>
    intro n acc h hl hn
    obtain ⟨n, rfl⟩ : ∃ k, n = k + 1 := ⟨n - 1, by omega⟩
    have hi : i < s.length := by omega
    have e : ((i + 1 : Nat) : Int) - 1 = (i : Int) := by omega
    have w : IntKind.wrap .i64 ((i : Int) - 1) = (i : Int) - 1 := by rw [wrap_id] <;> omega
    have hd := allD_mem ha s[i] (List.getElem_mem hi)
    have hu := hv_ub s[i] (by rw [← okd_dig]; exact hd)
    have hb := ub_lt s[i]
    have w2 : IntKind.wrap .i64 (IntKind.wrap .i64 (ub s[i]) - 48) = hv s[i] := by rw [ub_wrap, hu, wrap_id] <;> omega
    rw [e, rev_take s i hi]
    simp only [L36_5, ile_t (show (0 : Int) ≤ (i : Int) by omega), cond_true, Int.toNat_natCast, List.getElem?_eq_getElem hi, Option.bind_some, w, w2, okd_if, hd, Bool.not_true, cond_false, List.length_singleton, List.length_cons, List.length_nil, roomle (show (acc.length + (0 + 1)) * 9 ≤ 1000000 by omega)]
    rw [ih n _ (by omega) (by simp; omega) (by omega), List.map_cons, List.append_assoc]
    rfl
theorem of_spec (n : Nat) (s : List UInt8) (hs : s.length ≤ 5000) (ha : allD 10 s = true) (hn : s.length ≤ n) : of n s = some (s.reverse.map hv, ()) := by
  unfold of len
  have w : IntKind.wrap .i64 ((s.length : Int) - 1) = (s.length : Int) - 1 := by rw [wrap_id] <;> omega
  rw [ilt_f (show ((s.length : Nat) : Int) ≤ 5000 by omega), w, of_loop s (by omega) ha s.length (n + 1) [] (Nat.le_refl _) (by simp; omega) (by omega), List.take_length]
  rfl
theorem map_dg (s : List UInt8) (ha : allD 10 s = true) : Dg (s.reverse.map hv) := fun x hx => by
  obtain ⟨c, hc, rfl⟩ := List.mem_map.1 hx
  have := of_decide_eq_true (allD_mem ha c (List.mem_reverse.1 hc))
  omega
def pl (base : Int) (s : List UInt8) : List UInt8 × (Bool × Unit) :=
  bif s.isEmpty || (ilt 5000 (len s) || !allD base s) then ([], (false, ())) else (tx (bif base == 10 then s.reverse.map hv else fold base [] s), (true, ()))
theorem bad (s : List UInt8) (base : Int) (hb : base = 8 ∨ base = 10 ∨ base = 16) : (bif (s == ([] : List UInt8)) then
      some Bool.true
    else
    bif (Go.Iv.ilt (5000 : Int) (len s)) then
      some Bool.true
    else
    bif (base != (8 : Int)) then
      bif (base != (10 : Int)) then
        some (base != (16 : Int))
      else
      some Bool.false
    else
    some Bool.false) = some (s.isEmpty || ilt 5000 (len s)) := by
  rw [beq_nil]
  rcases hb with rfl | rfl | rfl <;> cases s.isEmpty <;> cases ilt 5000 (len s) <;> rfl
theorem plain_spec (n : Nat) (s : List UInt8) (base : Int) (hb : base = 8 ∨ base = 10 ∨ base = 16) (hn : 20000 ≤ n) : plain n s base = some (pl base s) := by
  have hk : 0 ≤ base ∧ base ≤ 16 := by omega
  unfold plain pl
  rw [bad s base hb]
  cases he : s.isEmpty with
  | true => rfl
  | false =>
    by_cases hl : s.length ≤ 5000
    · rw [ilt_f (show len s ≤ 5000 by unfold len; omega)]
      simp only [Bool.false_or, Option.bind_some, cond_false]
      by_cases h10 : base = 10
      · subst h10
        have := pl10 s s [] (by omega) s.length 0 (n + 2) (by omega) (by omega)
        rw [List.drop_zero] at this
        rw [show (0 : Int) = ((0 : Nat) : Int) from rfl, this]
        cases ha : allD 10 s with
        | false => rfl
        | true =>
          have e10 : ((10 : Int) == 10) = true := by decide
          simp only [Option.bind_some, cond_true, Bool.not_true, cond_false, e10]
          rw [of_spec (n + 2) s hl ha (by omega)]
          simp only [Option.bind_some]
          rw [text_spec n _ (by simp; omega) (by simp; omega)]
          rfl
      · have e10 : (base == 10) = false := beq_eq_false_iff_ne.2 h10
        have := plB base hk (by rw [bne, e10]; rfl) s s (by omega) s.length 0 (n + 2) [] (by omega) Dg.nil (by simp; omega) (by simp; omega)
        rw [List.drop_zero] at this
        rw [show (0 : Int) = ((0 : Nat) : Int) from rfl, this]
        cases ha : allD base s with
        | false => rfl
        | true =>
          obtain ⟨f1, f2⟩ := fold_ok base hk s [] Dg.nil ha
          rw [List.length_nil] at f2
          simp only [Option.bind_some, cond_true, Bool.not_true, cond_false, e10]
          rw [text_spec n _ (by omega) (by omega)]
          rfl
    · rw [ilt_t (show 5000 < len s by unfold len; omega)]
      rfl

/-! ### The reference's -/
def un (l : List Int) : List Int := bif l.isEmpty then [0] else l
theorem un_dg {l : List Int} (h : Dg l) : Dg (un l) := by
  unfold un
  cases l.isEmpty with
  | true => exact Dg.cons (by omega) Dg.nil
  | false => exact h
theorem un_len (l : List Int) : (un l).length ≤ l.length + 1 := by
  unfold un
  cases l.isEmpty <;> simp
theorem un_mul (k : Int) (l : List Int) (m : Int) (hm : 0 ≤ m ∧ m ≤ 15) : (bif (mul k (un l) m).isEmpty then [0] else mul k (un l) m) = un (mul k l m) := by
  cases l with
  | cons x r => rfl
  | nil =>
    show (bif (mul k [0] m).isEmpty then [0] else mul k [0] m) = un (mul k [] m)
    have e1 : mul k [0] m = (m % 10) :: carry (m / 10) := by
      unfold mul; simp only [mulA, Int.zero_mul, Int.add_zero]; rfl
    have e2 : mul k [] m = carry m := rfl
    rw [e1, e2]
    show (m % 10) :: carry (m / 10) = un (carry m)
    unfold carry
    by_cases h0 : m = 0
    · subst h0; rfl
    by_cases h1 : m < 10
    · rw [if_neg h0, if_pos h1, if_pos (show m / 10 = 0 by omega)]; rfl
    · rw [if_neg h0, if_neg h1, if_neg (show ¬ m / 10 = 0 by omega), if_pos (show m / 10 < 10 by omega)]; rfl
theorem tx_un (l : List Int) : tx (un l) = tx l := by
  cases l with
  | nil => decide
  | cons x r => rfl
theorem un_ne (l : List Int) : un l ≠ [] := by
  cases l with
  | nil => simp [un]
  | cons => simp [un]
end Go.Proofs.YtbkdijjliabfdaaDoor

/- Law 5: whole numbers. -/
namespace Go.Proofs.YtbkdijjliabfdaaDoor
open Go Go.Iv Go.Gv
set_option linter.unusedSimpArgs false
set_option linter.unusedVariables false

theorem tx_form (l : List Int) : tx l = [48] ∨ ∃ x r, tx l = x :: r ∧ (x == 48) = false := by
  unfold tx
  cases h : tl (l.reverse.map ch) with
  | nil => exact .inl rfl
  | cons x r => exact .inr ⟨x, r, rfl, tl_head _ x r h⟩
theorem pl_form (base : Int) (t : List UInt8) (h : (pl base t).2.1 = true) : (pl base t).1 = [48] ∨ ∃ x r, (pl base t).1 = x :: r ∧ (x == 48) = false := by
  unfold pl at h ⊢
  cases hb : (t.isEmpty || (ilt 5000 (len t) || !allD base t)) with
  | true => rw [hb] at h; cases h
  | false => exact tx_form _
theorem tx_len (l : List Int) : (tx l).length ≤ l.length + 1 := by
  unfold tx
  have := tl_len (l.reverse.map ch)
  rw [List.length_map, List.length_reverse] at this
  cases (tl (l.reverse.map ch)).isEmpty with
  | true => simp
  | false => simp only [cond_false]; omega
theorem pl_len (base : Int) (hk : 0 ≤ base ∧ base ≤ 16) (t : List UInt8) : (pl base t).1.length ≤ 10001 := by
  unfold pl
  cases hb : (t.isEmpty || (ilt 5000 (len t) || !allD base t)) with
  | true => simp
  | false =>
    simp only [Bool.or_eq_false_iff, Bool.not_eq_false'] at hb
    obtain ⟨_, h2, h3⟩ := hb
    rw [ilt_eq] at h2
    have h2 := of_decide_eq_false h2
    unfold len at h2
    simp only [cond_false]
    refine Nat.le_trans (tx_len _) ?_
    cases base == 10 with
    | true => simp only [cond_true, List.length_map, List.length_reverse]; omega
    | false =>
      have := (fold_ok base hk t [] Dg.nil h3).2
      simp only [cond_false, List.length_nil] at this ⊢; omega

def no : Num × (Bool × Unit) := ((false, ([], (0, 0))), (false, ()))
def fin (b : Bool) (p : List UInt8 × (Bool × Unit)) : Num × (Bool × Unit) :=
  bif p.2.1 then (norm (b && !(p.1 == [48])) p.1 0, (true, ())) else no
theorem tl_id (x : UInt8) (r : List UInt8) (h : (x == 48) = false) : tl (x :: r) = x :: r := by
  unfold tl; rw [List.dropWhile, h]
theorem trimR_id (x : UInt8) (r : List UInt8) (h : (x == 48) = false) : ∃ q, trimR (x :: r) = x :: q := by
  have hn := trimR_cons x r h
  have hp : trimR (x :: r) <+: x :: r := by
    have := (List.dropWhile_suffix (· == (48 : UInt8)) (l := (x :: r).reverse))
    have := List.reverse_prefix.2 this
    rw [List.reverse_reverse] at this
    exact this
  obtain ⟨q, hq⟩ := hp
  cases ht : trimR (x :: r) with
  | nil => rw [ht] at hn; cases hn
  | cons y z =>
    rw [ht] at hq
    injection hq with h1 h2
    exact ⟨z, by rw [h1]⟩
theorem fin_prog (n : Nat) (b : Bool) (base : Int) (hb : 0 ≤ base ∧ base ≤ 16) (t : List UInt8) (hn : 20000 ≤ n) :
    (bif !(pl base t).2.1 then some no else
      Option.bind (whole (n + 1) b (pl base t).1 0) fun y8 =>
      bif y8.1.1 then
        some (((!(y8.1.2.1 == ([(48 : UInt8)] : List UInt8))), (y8.1.2.1, (y8.1.2.2.1, y8.1.2.2.2))), Bool.true, ())
      else
      some ((Bool.false, (y8.1.2.1, (y8.1.2.2.1, y8.1.2.2.2))), Bool.true, ())) = some (fin b (pl base t)) := by
  have hl := pl_len base hb t
  rw [whole_spec (n + 1) b _ 0 (by omega) (by omega) (by omega) (by omega)]
  unfold fin
  cases h : (pl base t).2.1 with
  | false => rfl
  | true =>
    simp only [Bool.not_true, cond_false, cond_true, Option.bind_some]
    rcases pl_form base t h with hf | ⟨x, r, hf, hx⟩
    · rw [hf]; cases b <;> rfl
    · obtain ⟨q, hq⟩ := trimR_id x r hx
      have e1 : ((x :: r) == ([48] : List UInt8)) = false := by show ((x == 48) && _) = false; rw [hx]; rfl
      have e2 : ((x :: q) == ([48] : List UInt8)) = false := by show ((x == 48) && _) = false; rw [hx]; rfl
      rw [hf, e1]
      unfold norm
      rw [tl_id x r hx, hq]
      simp only [List.isEmpty_cons, cond_false, e2, Bool.not_false, Bool.and_true]
      cases b <;> rfl
def iv (s : List UInt8) : Num × (Bool × Unit) :=
  bif pre [48, 111] s then fin false (pl 8 (s.drop 2)) else bif pre [48, 120] s then fin false (pl 16 (s.drop 2)) else fin (sgn s).2 (pl 10 (sgn s).1)
theorem int_spec (n : Nat) (s : List UInt8) (hn : 20000 ≤ n) : int n s = some (iv s) := by
  unfold int iv
  rw [cutPrefix_spec, cutPrefix_spec, signed_spec]
  simp only [Option.bind_some]
  cases h1 : pre [48, 111] s with
  | true =>
    simp only [cond_true]
    rw [plain_spec n _ 8 (by omega) hn]
    exact fin_prog n false 8 (by omega) (s.drop 2) hn
  | false =>
    simp only [cond_false]
    cases h2 : pre [48, 120] s with
    | true =>
      simp only [cond_true]
      rw [plain_spec n _ 16 (by omega) hn]
      exact fin_prog n false 16 (by omega) (s.drop 2) hn
    | false =>
      simp only [cond_false]
      rw [plain_spec n _ 10 (by omega) hn]
      exact fin_prog n (sgn s).2 10 (by omega) (sgn s).1 hn
theorem pre_not (s : List UInt8) (h : pre [48, 111] s = true) : pre [48, 120] s = false := by
  match s, h with
  | [], h => cases h
  | [x], h => simp [pre] at h
  | x :: y :: r, h =>
    simp only [pre, Bool.and_true, Bool.and_eq_true, beq_iff_eq] at h ⊢
    rw [h.2]; simp
theorem pre_sgn (c : UInt8) (s : List UInt8) (h : pre [48, c] s = true) : (sgn s).2 = false ∧ 2 ≤ s.length := by
  match s, h with
  | [], h => cases h
  | [x], h => simp [pre] at h
  | x :: y :: r, h =>
    simp only [pre, Bool.and_true, Bool.and_eq_true, beq_iff_eq] at h
    rw [h.1]
    exact ⟨rfl, by simp⟩
end Go.Proofs.YtbkdijjliabfdaaDoor

/- Law 5: exponents. -/
namespace Go.Proofs.YtbkdijjliabfdaaDoor
open Go Go.Iv Go.Gv
set_option linter.unusedSimpArgs false
set_option linter.unusedVariables false
set_option maxRecDepth 20000

def vf : Int → List UInt8 → Int
  | a, [] => a
  | a, c :: r => vf (a * 10 + (ub c - 48)) r
def allg : List UInt8 → Bool
  | [] => true
  | c :: r => dig c && allg r
theorem run_all : ∀ (d : List UInt8), ((run d).length = d.length) ↔ allg d = true
  | [] => ⟨fun _ => rfl, fun _ => rfl⟩
  | c :: r => by
    have ih := run_all r
    unfold run at ih ⊢
    simp only [List.takeWhile, allg]
    cases dig c with
    | false => simp
    | true => simp only [List.length_cons, Bool.true_and, ← ih]; omega
theorem run_id (d : List UInt8) (h : allg d = true) : run d = d := by
  have := (run_all d).2 h
  have h2 := run_take d
  rw [this, List.take_length] at h2
  exact h2.symm
theorem dig_ub (c : UInt8) (h : dig c = true) : 48 ≤ ub c ∧ ub c ≤ 57 := by
  unfold dig at h; unfold ub
  rw [Bool.and_eq_true, Nat.ble_eq, Nat.ble_eq] at h; omega
theorem allg_get : ∀ (d : List UInt8), allg d = true → ∀ (i : Nat) (h : i < d.length), dig d[i] = true
  | [], _, i, h => by simp at h
  | c :: r, ha, i, h => by
    simp only [allg, Bool.and_eq_true] at ha
    cases i with
    | zero => exact ha.1
    | succ i => exact allg_get r ha.2 i (by simpa using h)
theorem sub48 (c : UInt8) (h : dig c = true) : ub (c - 48) = ub c - 48 := by
  have hb := dig_ub c h
  unfold ub at hb ⊢
  have e : (48 : UInt8) ≤ c := by rw [UInt8.le_iff_toNat_le]; show 48 ≤ c.toNat; omega
  rw [UInt8.toNat_sub_of_le _ _ e]
  show ((c.toNat - 48 : Nat) : Int) = (c.toNat : Int) - 48
  omega
theorem pow9 (i : Nat) (h : i ≤ 8) : (10 : Int) ^ i ≤ 100000000 ∧ (1 : Int) ≤ 10 ^ i ∧ (10 : Int) ^ (i + 1) = 10 ^ i * 10 := by
  refine ⟨?_, ?_, Int.pow_succ ..⟩
  · have := Nat.pow_le_pow_right (show 0 < 10 by decide) h
    have e : ((10 ^ i : Nat) : Int) = 10 ^ i := by norm_cast
    rw [← e]; omega
  · have : 0 < 10 ^ i := Nat.pow_pos (show 0 < 10 by decide)
    have e : ((10 ^ i : Nat) : Int) = 10 ^ i := by norm_cast
    rw [← e]; omega
theorem val_loop (t d : List UInt8) (ha : allg d = true) (hl : d.length ≤ 9) : ∀ (m i n : Nat) (a : Int), i + m = d.length → 0 ≤ a ∧ a < 10 ^ i → m + 1 ≤ n →
    L55_10 n t a d (len d) (i : Int) = some ((t, (vf a (d.drop i), ())), ()) := by
  intro m
  induction m with
  | zero =>
    intro i n a h hb hn
    obtain ⟨n, rfl⟩ : ∃ k, n = k + 1 := ⟨n - 1, by omega⟩
    simp only [L55_10, len, ilt_f (show ((d.length : Nat) : Int) ≤ (i : Int) by omega), cond_false, List.drop_eq_nil_of_le (show d.length ≤ i by omega), vf]
  | succ m ih =>
    intro i n a h hb hn
    obtain ⟨n, rfl⟩ : ∃ k, n = k + 1 := ⟨n - 1, by omega⟩
    have hi : i < d.length := by omega
    have hd := allg_get d ha i hi
    have hu := dig_ub _ hd
    obtain ⟨p1, p2, p3⟩ := pow9 i (by omega)
    have w : IntKind.wrap .i64 ((i : Int) + 1) = ((i + 1 : Nat) : Int) := by rw [wrap_id] <;> omega
    have w1 : IntKind.wrap .i64 (IntKind.wrap .i64 (a * 10) + IntKind.wrap .i64 (ub (d[i] - 48))) = a * 10 + (ub d[i] - 48) := by
      rw [ub_wrap, sub48 _ hd, wrap_id (x := a * 10), wrap_id] <;> omega
    have q : Nat.blt (UInt8.toNat 9) (UInt8.toNat (d[i] - 48)) = false := by
      have := sub48 _ hd
      unfold ub at this hu
      have e : UInt8.toNat 9 = 9 := rfl
      rw [e]
      cases hq : Nat.blt 9 (UInt8.toNat (d[i] - 48)) with
      | false => rfl
      | true =>
        have := Nat.le_of_ble_eq_true hq
        omega
    have ih := ih (i + 1) n (a * 10 + (ub d[i] - 48)) (by omega) (by rw [p3]; omega) (by omega)
    rw [List.drop_eq_getElem_cons hi]
    unfold len at ih ⊢
    simp only [L55_10, ilt_t (show (i : Int) < ((d.length : Nat) : Int) by omega), ile_t (show (0 : Int) ≤ (i : Int) by omega), cond_true, Int.toNat_natCast, List.getElem?_eq_getElem hi, Option.bind_some, w, w1, q, cond_false, vf, ih]
theorem vf_bound (d : List UInt8) : ∀ (a : Int) (i : Nat), allg d = true → i + d.length ≤ 9 → 0 ≤ a ∧ a < 10 ^ i → 0 ≤ vf a d ∧ vf a d < 1000000000 := by
  induction d with
  | nil =>
    intro a i _ h hb
    simp only [vf]
    rw [List.length_nil] at h
    have := Nat.pow_le_pow_right (show 0 < 10 by decide) h
    have e : ((10 ^ i : Nat) : Int) = 10 ^ i := by norm_cast
    rw [← e] at hb
    simp only [Nat.add_zero] at this
    omega
  | cons c r ih =>
    intro a i ha h hb
    simp only [allg, Bool.and_eq_true] at ha
    rw [List.length_cons] at h
    have hu := dig_ub _ ha.1
    obtain ⟨p1, p2, p3⟩ := pow9 i (by omega)
    exact ih _ (i + 1) ha.2 (by omega) (by rw [p3]; omega)

def okx (d : List UInt8) : Bool := !d.isEmpty && (Nat.ble d.length 9 && allg d)
def ex : List UInt8 → Int × Bool
  | [] => (0, true)
  | c :: r => bif c != 101 && c != 69 then (0, false) else bif okx (sgn r).1 then (bif (sgn r).2 then -(vf 0 (sgn r).1) else vf 0 (sgn r).1, true) else (0, false)
theorem ex_bound (s : List UInt8) : -1000000000 ≤ (ex s).1 ∧ (ex s).1 ≤ 1000000000 := by
  cases s with
  | nil => simp [ex]
  | cons c r =>
    simp only [ex]
    cases (c != 101 && c != 69) with
    | true => simp
    | false =>
      cases h : okx (sgn r).1 with
      | false => simp
      | true =>
        unfold okx at h
        rw [Bool.and_eq_true, Bool.and_eq_true, Nat.ble_eq] at h
        have := vf_bound (sgn r).1 0 0 h.2.2 (by omega) (by simp)
        cases (sgn r).2 <;> simp only [cond_true, cond_false] <;> omega
theorem exponent_spec (n : Nat) (s : List UInt8) (hs : s.length ≤ 100000) (hn : s.length + 20 ≤ n) : exponent n s = some ((ex s).1, (ex s).2, ()) := by
  cases s with
  | nil => rfl
  | cons c r =>
    unfold exponent
    have e0 : ((c :: r) == ([] : List UInt8)) = false := rfl
    have e1 : (Option.bind ((c :: r)[0]?) fun x1 => bif (x1 != (101 : UInt8)) then Option.bind ((c :: r)[0]?) fun x2 => some (x2 != (69 : UInt8)) else some Bool.false) = some (c != 101 && c != 69) := by
      show (bif c != 101 then some (c != 69) else some false) = _
      cases c != 101 <;> rfl
    have hsl := sgn_len r
    rw [e0, cond_false, e1, Option.bind_some]
    simp only [ex]
    cases (c != 101 && c != 69) with
    | true => rfl
    | false =>
      rw [cond_false, cond_false, ile_t (show (1 : Int) ≤ len (c :: r) by simp only [len, List.length_cons]; omega), cond_true, take_all]
      show Option.bind (signed (n + 2) r) _ = _
      rw [signed_spec, Option.bind_some]
      simp only [List.length_cons] at hs hn
      generalize hd : (sgn r).1 = d at *
      generalize (sgn r).2 = b at *
      rw [beq_nil]
      cases he : d.isEmpty with
      | true => rw [isEmpty_eq he]; rfl
      | false =>
        have hpos : 0 < d.length := by
          cases d with
          | nil => cases he
          | cons => simp
        rw [cond_false]
        by_cases h9 : 9 < d.length
        · have : okx d = false := by
            unfold okx
            have : Nat.ble d.length 9 = false := by
              cases hq : Nat.ble d.length 9 with
              | false => rfl
              | true => have := Nat.le_of_ble_eq_true hq; omega
            rw [this]; simp
          rw [ilt_t (show 9 < len d by unfold len; omega), cond_true, this]; rfl
        rw [ilt_f (show len d ≤ 9 by unfold len; omega), cond_false, count_spec (n + 4) d (by omega) (by omega), Option.bind_some]
        have h9' : Nat.ble d.length 9 = true := Nat.ble_eq_true_of_le (by omega)
        cases ha : allg d with
        | false =>
          have h1 : ¬ ((run d).length = d.length) := fun h => by
            have := (run_all d).1 h
            rw [ha] at this; cases this
          have h2 : (((run d).length : Int) != len d) = true := by
            rw [bne_iff_ne]; unfold len; omega
          have : okx d = false := by unfold okx; rw [ha]; simp
          rw [h2, cond_true, this]; rfl
        | true =>
          have h2 : (((run d).length : Int) != len d) = false := by
            rw [(run_all d).2 ha]; unfold len; simp
          have : okx d = true := by unfold okx; rw [ha, he, h9']; rfl
          rw [h2, cond_false, this, ilt_t (show 0 < len d by unfold len; omega), ilt_t (show len d < 19 by unfold len; omega), cond_true, Option.bind_some, cond_true]
          have hg : d[0]? = some d[0] := List.getElem?_eq_getElem hpos
          have hd0 := dig_ub _ (allg_get d ha 0 hpos)
          have n45 : (d[0] == 45) = false := by
            rw [beq_eq_false_iff_ne]; intro h; rw [h] at hd0; exact absurd hd0.1 (by decide)
          have n43 : (d[0] == 43) = false := by
            rw [beq_eq_false_iff_ne]; intro h; rw [h] at hd0; exact absurd hd0.1 (by decide)
          have hv := val_loop d d ha (by omega) d.length 0 (n + 4) 0 (by omega) (by simp) (by omega)
          rw [List.drop_zero] at hv
          rw [hg, Option.bind_some, n45, cond_false, Option.bind_some, n43, Option.bind_some, cond_false]
          rw [show L55_10 (n + 4) d (0 : Int) d (len d) (0 : Int) = _ from hv, Option.bind_some]
          simp only [hg, Option.bind_some, n45, cond_false]
          have hb := vf_bound d 0 0 ha (by omega) (by simp)
          have w : IntKind.wrap .i64 ((0 : Int) - vf 0 d) = -(vf 0 d) := by rw [wrap_id] <;> omega
          rw [w]
          cases b <;> rfl
end Go.Proofs.YtbkdijjliabfdaaDoor

/- Law 5: floats. -/
namespace Go.Proofs.YtbkdijjliabfdaaDoor
open Go Go.Iv Go.Gv
set_option linter.unusedSimpArgs false
set_option linter.unusedVariables false
set_option maxRecDepth 20000

def isNan (s : List UInt8) : Bool := s == [46, 110, 97, 110] || (s == [46, 78, 97, 78] || s == [46, 78, 65, 78])
def isInf (s : List UInt8) : Bool := s == [46, 105, 110, 102] || (s == [46, 73, 110, 102] || s == [46, 73, 78, 70])
def nanv : Num × (Bool × Unit) := ((false, ([], (0, 2))), (true, ()))
def infv (b : Bool) : Num × (Bool × Unit) := ((b, ([], (0, 1))), (true, ()))
def tail (w p v : List UInt8) (b : Bool) : Num × (Bool × Unit) :=
  bif !(ex v).2 || ((w.isEmpty && p.isEmpty) || ilt 5000 (len w + len p)) then no else (norm b (w ++ p) ((ex v).1 - len p), (true, ()))
def num (t : List UInt8) (b : Bool) : Num × (Bool × Unit) :=
  bif pre [46] (t.drop (run t).length) then tail (run t) (run (t.drop ((run t).length + 1))) (t.drop ((run t).length + 1 + (run (t.drop ((run t).length + 1))).length)) b
  else tail (run t) [] (t.drop (run t).length) b
def fl (s : List UInt8) : Num × (Bool × Unit) := bif isNan s then nanv else bif isInf (sgn s).1 then infv (sgn s).2 else num (sgn s).1 (sgn s).2

theorem named_spec (n : Nat) (s : List UInt8) : named n s = some (bif isNan s then nanv else bif isInf (sgn s).1 then infv (sgn s).2 else no) := by
  unfold named isNan isInf
  rw [signed_spec]
  simp only [Option.bind_some]
  cases s == [46, 110, 97, 110] <;> cases s == [46, 78, 97, 78] <;> cases s == [46, 78, 65, 78] <;> cases (sgn s).1 == [46, 105, 110, 102] <;> cases (sgn s).1 == [46, 73, 110, 102] <;> cases (sgn s).1 == [46, 73, 78, 70] <;> rfl

theorem tail_prog (n : Nat) (w p v : List UInt8) (b : Bool) (hw : w.length ≤ 6000) (hp : p.length ≤ 6000) (hn : 20000 ≤ n) :
    (Option.bind (bif (!(ex v).2) then
        some Bool.true
      else
      bif (w == ([] : List UInt8)) then
        bif (p == ([] : List UInt8)) then
          some Bool.true
        else
        some (Go.Iv.ilt (5000 : Int) (Go.IntKind.wrap Go.IntKind.i64 (len w + len p)))
      else
      some (Go.Iv.ilt (5000 : Int) (Go.IntKind.wrap Go.IntKind.i64 (len w + len p)))) fun b7 =>
    bif b7 then
      some no
    else
    bif (room (w.length + p.length)) then
    Option.bind (whole (n + 3) b (w ++ p) (Go.IntKind.wrap Go.IntKind.i64 ((ex v).1 - len p))) fun y8 =>
    some ((y8.1.1, (y8.1.2.1, (y8.1.2.2.1, y8.1.2.2.2))), Bool.true, ())
    else none) = some (tail w p v b) := by
  have hb := ex_bound v
  have w1 : IntKind.wrap .i64 (len w + len p) = len w + len p := by unfold len; rw [wrap_id] <;> omega
  have w2 : IntKind.wrap .i64 ((ex v).1 - len p) = (ex v).1 - len p := by unfold len; rw [wrap_id] <;> omega
  rw [beq_nil, beq_nil, w1, w2, whole_spec (n + 3) b (w ++ p) _ (by unfold len; omega) (by unfold len; omega) (by simp; omega) (by simp; omega), roomle (show w.length + p.length ≤ 1000000 by omega)]
  unfold tail
  cases (ex v).2 <;> cases w.isEmpty <;> cases p.isEmpty <;> cases ilt 5000 (len w + len p) <;> rfl

theorem float_spec (n : Nat) (s : List UInt8) (hs : s.length ≤ 6000) (hn : 20000 ≤ n) : float n s = some (fl s) := by
  unfold float fl
  rw [named_spec, Option.bind_some]
  cases hnan : isNan s with
  | true => rfl
  | false =>
    simp only [cond_false]
    cases hinf : isInf (sgn s).1 with
    | true => rfl
    | false =>
      simp only [cond_false, no]
      rw [signed_spec]
      simp only [Option.bind_some, take_all, Nat.sub_zero, List.drop_zero]
      have hsl := sgn_len s
      generalize (sgn s).1 = t at *
      generalize (sgn s).2 = b at *
      have hr := run_len t
      rw [count_spec (n + 5) t (by omega) (by omega)]
      simp only [Option.bind_some, len, Int.toNat_natCast, ile_t (show (0 : Int) ≤ ((run t).length : Nat) by omega), ile_t (show (((run t).length : Nat) : Int) ≤ (t.length : Nat) by omega), Bool.and_self, cond_true, hasPrefix_spec, run_take, take_all]
      unfold num
      cases hp : pre [46] (t.drop (run t).length) with
      | false =>
        simp only [cond_false]
        rw [exponent_spec n _ (by simp; omega) (by simp; omega)]
        simp only [Option.bind_some]
        have := tail_prog n (run t) [] (t.drop (run t).length) b (by omega) (by simp) hn
        exact this
      | true =>
        have hpl := pre_len _ _ hp
        simp only [List.length_drop, List.length_singleton] at hpl
        have hr2 := run_len (t.drop ((run t).length + 1))
        rw [List.length_drop] at hr2
        simp only [cond_true, List.length_drop, ile_t (show (1 : Int) ≤ ((t.length - (run t).length : Nat) : Int) by omega), List.drop_drop]
        rw [count_spec (n + 5) _ (by simp; omega) (by simp; omega)]
        have w : IntKind.wrap .i64 ((1 : Int) + ((run (t.drop ((run t).length + 1))).length : Nat)) = ((1 + (run (t.drop ((run t).length + 1))).length : Nat) : Int) := by rw [wrap_id] <;> omega
        simp only [Option.bind_some, w, Int.toNat_natCast, ile_t (show (0 : Int) ≤ ((1 + (run (t.drop ((run t).length + 1))).length : Nat) : Int) by omega), ile_t (show (1 : Int) ≤ ((1 + (run (t.drop ((run t).length + 1))).length : Nat) : Int) by omega),
          ile_t (show ((1 + (run (t.drop ((run t).length + 1))).length : Nat) : Int) ≤ ((t.length - (run t).length : Nat) : Int) by omega), Bool.and_self, cond_true]
        have e1 : (run t).length + (1 + (run (t.drop ((run t).length + 1))).length) = (run t).length + 1 + (run (t.drop ((run t).length + 1))).length := by omega
        have e2 : List.take (1 + (run (t.drop ((run t).length + 1))).length - 1) (List.drop ((run t).length + 1) t) = run (t.drop ((run t).length + 1)) := by
          rw [Nat.add_sub_cancel_left, run_take]
        rw [e1, e2, exponent_spec n _ (by simp; omega) (by simp; omega)]
        simp only [Option.bind_some]
        exact tail_prog n (run t) (run (t.drop ((run t).length + 1))) _ b (by omega) (by omega) hn
end Go.Proofs.YtbkdijjliabfdaaDoor

/- Law 19: what JSON tells of a text (the program's). -/
namespace Go.Proofs.YtbkdijjliabfdaaDoor
open Go Go.Iv Go.Gv
set_option linter.unusedSimpArgs false
set_option linter.unusedVariables false
set_option maxRecDepth 20000

def yml : List UInt8 := [(116 : UInt8), (97 : UInt8), (103 : UInt8), (58 : UInt8), (121 : UInt8), (97 : UInt8), (109 : UInt8), (108 : UInt8), (46 : UInt8), (111 : UInt8), (114 : UInt8), (103 : UInt8), (44 : UInt8), (50 : UInt8), (48 : UInt8), (48 : UInt8), (50 : UInt8), (58 : UInt8)]
def sNull : List UInt8 := ([(110 : UInt8), (117 : UInt8), (108 : UInt8), (108 : UInt8)] : List UInt8)
def sBool : List UInt8 := ([(98 : UInt8), (111 : UInt8), (111 : UInt8), (108 : UInt8)] : List UInt8)
def sInt : List UInt8 := ([(105 : UInt8), (110 : UInt8), (116 : UInt8)] : List UInt8)
def sFloat : List UInt8 := ([(102 : UInt8), (108 : UInt8), (111 : UInt8), (97 : UInt8), (116 : UInt8)] : List UInt8)
def sStr : List UInt8 := ([(115 : UInt8), (116 : UInt8), (114 : UInt8)] : List UInt8)

/-! ### Digits -/
theorem dig_all : ∀ k : Fin 256, List.contains ([(48 : UInt8), (49 : UInt8), (50 : UInt8), (51 : UInt8), (52 : UInt8), (53 : UInt8), (54 : UInt8), (55 : UInt8), (56 : UInt8), (57 : UInt8)] : List UInt8) (UInt8.ofNat k.val) = dig (UInt8.ofNat k.val) := by decide +kernel
theorem dig_in (c : UInt8) : List.contains ([(48 : UInt8), (49 : UInt8), (50 : UInt8), (51 : UInt8), (52 : UInt8), (53 : UInt8), (54 : UInt8), (55 : UInt8), (56 : UInt8), (57 : UInt8)] : List UInt8) c = dig c := by
  have := dig_all ⟨c.toNat, c.toNat_lt⟩
  simpa using this
theorem run_drop (s : List UInt8) : s.drop (run s).length = s.dropWhile dig := by
  have h : run s ++ s.dropWhile dig = s := List.takeWhile_append_dropWhile
  have : (run s ++ s.dropWhile dig).drop (run s).length = s.dropWhile dig := List.drop_left' rfl
  rw [h] at this; exact this
theorem countS_spec (n : Nat) (s : List UInt8) (hs : s.length ≤ 1000000) : countS n s = some (((run s).length : Int), ()) := by
  unfold countS Lib.trimLeftS
  have e : (fun c => List.contains ([(48 : UInt8), (49 : UInt8), (50 : UInt8), (51 : UInt8), (52 : UInt8), (53 : UInt8), (54 : UInt8), (55 : UInt8), (56 : UInt8), (57 : UInt8)] : List UInt8) c) = dig := funext dig_in
  rw [e]
  have h : (run s ++ s.dropWhile dig).length = s.length := by rw [show run s ++ s.dropWhile dig = s from List.takeWhile_append_dropWhile]
  rw [List.length_append] at h
  unfold len
  rw [wrap_id (by omega) (by omega), show ((s.length : Nat) : Int) - ((s.dropWhile dig).length : Nat) = ((run s).length : Nat) by omega]

/-! ### Exponents, as JSON has them -/
def okj (t : List UInt8) : Bool := ((run t).length == t.length) && Nat.ble 1 (run t).length && Nat.ble (run t).length 9
def unsign : List UInt8 → List UInt8
  | [] => []
  | c :: r => bif c == 45 || c == 43 then r else c :: r
def expo : List UInt8 → Bool
  | [] => true
  | c :: r => (c == 101 || c == 69) && okj (unsign r)

theorem expo_cons (c : UInt8) (r : List UInt8) : expo (c :: r) = ((c == 101 || c == 69) && okj (unsign r)) := rfl
theorem unsign_cons (c : UInt8) (r : List UInt8) : unsign (c :: r) = bif c == 45 || c == 43 then r else c :: r := rfl

theorem ile_nat (a b : Nat) : ile (a : Int) (b : Int) = Nat.ble a b := by
  rw [ile_eq]
  by_cases h : a ≤ b
  · rw [Nat.ble_eq_true_of_le h]; exact decide_eq_true (by omega)
  · rw [show Nat.ble a b = false from by cases hb : Nat.ble a b with | false => rfl | true => exact absurd (Nat.le_of_ble_eq_true hb) h]; exact decide_eq_false (by omega)
theorem ilt_nat (a b : Nat) : ilt (a : Int) (b : Int) = Nat.ble (a + 1) b := by
  rw [ilt_eq]
  by_cases h : a < b
  · rw [Nat.ble_eq_true_of_le h]; exact decide_eq_true (by omega)
  · rw [show Nat.ble (a + 1) b = false from by cases hb : Nat.ble (a + 1) b with | false => rfl | true => exact absurd (Nat.le_of_ble_eq_true hb) h]; exact decide_eq_false (by omega)
theorem beq_nat (a b : Nat) : (((a : Nat) : Int) == ((b : Nat) : Int)) = (a == b) := by
  rw [Bool.eq_iff_iff, beq_iff_eq, beq_iff_eq]; omega

theorem okjS (n : Nat) (t : List UInt8) (ht : t.length ≤ 1000000) : (Option.bind (countS n t) fun y =>
    Option.bind (bif (y.1 == (len t)) then bif (Go.Iv.ile (1 : Int) y.1) then some (Go.Iv.ile y.1 (9 : Int)) else some Bool.false else some Bool.false) fun b => some (b, ())) = some (okj t, ()) := by
  rw [countS_spec n t ht, Option.bind_some]
  unfold len okj
  simp only [beq_nat, show (1 : Int) = ((1 : Nat) : Int) from rfl, show (9 : Int) = ((9 : Nat) : Int) from rfl, ile_nat]
  cases (run t).length == t.length <;> cases Nat.ble 1 (run t).length <;> rfl

theorem in_signs (n : Nat) (c : UInt8) : L57_2 (n + 3) (ub c) (2 : Int) (0 : Int) ((43 : Int) :: ((45 : Int) :: ([] : List Int))) =
    some (bif c == 43 then .inr ((0, ()), ((43 : Int) :: ((45 : Int) :: ([] : List Int)), ())) else bif c == 45 then .inr ((1, ()), ((43 : Int) :: ((45 : Int) :: ([] : List Int)), ())) else .inl ((), ((43 : Int) :: ((45 : Int) :: ([] : List Int)), ()))) := by
  have h1 : (ub c == 43) = (c == 43) := by
    rw [Bool.eq_iff_iff, beq_iff_eq, beq_iff_eq]; exact (ub_inj (b := 43))
  have h2 : (ub c == 45) = (c == 45) := by
    rw [Bool.eq_iff_iff, beq_iff_eq, beq_iff_eq]; exact (ub_inj (b := 45))
  simp only [L57_2, len, List.length_cons, List.length_nil, show ilt (0 : Int) 2 = true from rfl, show ilt (0 : Int) ((0 + 1 + 1 : Nat) : Int) = true from rfl, show ile (0 : Int) 0 = true from rfl, Bool.and_self, cond_true,
    show Int.toNat 0 = 0 from rfl, List.getElem?_cons_zero, Option.bind_some, h1, show IntKind.wrap .i64 ((0 : Int) + 1) = 1 from rfl, show ilt (1 : Int) 2 = true from rfl, show ilt (1 : Int) ((0 + 1 + 1 : Nat) : Int) = true from rfl, show ile (0 : Int) 1 = true from rfl,
    show Int.toNat 1 = 1 from rfl, List.getElem?_cons_succ, h2, show IntKind.wrap .i64 ((1 : Int) + 1) = 2 from rfl, show ilt (2 : Int) 2 = false from rfl, cond_false]
  cases c == 43 <;> cases c == 45 <;> rfl

theorem exponentS_spec (n : Nat) (s : List UInt8) (hs : s.length ≤ 1000000) (hn : 10 ≤ n) : exponentS n s = some (expo s, ()) := by
  obtain ⟨n, rfl⟩ : ∃ k, n = k + 2 := ⟨n - 2, by omega⟩
  unfold exponentS
  cases s with
  | nil => rfl
  | cons c r =>
    simp only [List.length_cons] at hs
    have e0 : ((c :: r) == ([] : List UInt8)) = false := rfl
    have e1 : ile (1 : Int) (len (c :: r)) = true := ile_t (by unfold len; simp only [List.length_cons]; omega)
    have e2 : List.take ((c :: r).length - 1) (List.drop 1 (c :: r)) = r := take_all (c :: r) 1
    simp only [e0, cond_false, List.getElem?_cons_zero, Option.bind_some, e1, cond_true, e2]
    have hb : (Option.bind (bif c != 101 then some (c != 69) else some Bool.false) fun b => (some b : Option Bool)) = some (!(c == 101 || c == 69)) := by
      unfold bne; cases c == 101 <;> cases c == 69 <;> rfl
    have hb' : (bif c != 101 then some (c != 69) else some Bool.false) = some (!(c == 101 || c == 69)) := by
      unfold bne; cases c == 101 <;> cases c == 69 <;> rfl
    rw [hb', Option.bind_some]
    rw [expo_cons]
    cases hc : (c == 101 || c == 69) with
    | false => rfl
    | true =>
      simp only [Bool.not_true, cond_false, Bool.true_and]
      cases r with
      | nil => exact okjS (n + 2 + 2) [] (by simp)
      | cons d t =>
        simp only [List.length_cons] at hs
        have f0 : ((d :: t) == ([] : List UInt8)) = false := rfl
        have f1 : ile (1 : Int) (len (d :: t)) = true := ile_t (by unfold len; simp only [List.length_cons]; omega)
        have f2 : List.take ((d :: t).length - 1) (List.drop 1 (d :: t)) = t := take_all (d :: t) 1
        simp only [f0, Bool.not_false, cond_true, List.getElem?_cons_zero, Option.bind_some, ub_wrap, in_signs n d]
        rw [unsign_cons]
        cases h1 : d == 43 with
        | true =>
          simp only [cond_true, Option.bind_some, show ile (0 : Int) 0 = true from rfl, f1, f2, Bool.or_true]
          exact okjS _ t (by omega)
        | false =>
          cases h2 : d == 45 with
          | true =>
            simp only [cond_true, cond_false, Option.bind_some, show ile (0 : Int) 1 = true from rfl, f1, f2, Bool.or_false]
            exact okjS _ t (by omega)
          | false =>
            simp only [cond_false, Option.bind_some, Bool.or_false]
            exact okjS _ (d :: t) (by simp only [List.length_cons]; omega)

/-! ### The name -/
def unminus (s : List UInt8) : List UInt8 := bif pre [45] s then s.drop 1 else s
def badw (t : List UInt8) : Bool := (run t).isEmpty || (Nat.ble 2 (run t).length && (t.head? == some 48))
def jtail (r : List UInt8) : List UInt8 := bif expo r then sFloat else sStr
def jfrac : List UInt8 → List UInt8
  | [] => jtail []
  | c :: r => bif c == 46 then bif (run r).isEmpty then sStr else jtail (r.drop (run r).length) else jtail (c :: r)
theorem jfrac_cons (c : UInt8) (r : List UInt8) : jfrac (c :: r) = bif c == 46 then bif (run r).isEmpty then sStr else jtail (r.drop (run r).length) else jtail (c :: r) := rfl
def jbody (big : Bool) (t : List UInt8) : List UInt8 :=
  bif badw t || big then sStr else bif (t.drop (run t).length).isEmpty then sInt else jfrac (t.drop (run t).length)
def jname (s : List UInt8) : List UInt8 :=
  bif s == [] || s == ([(110 : UInt8), (117 : UInt8), (108 : UInt8), (108 : UInt8)] : List UInt8) then sNull else bif s == ([(116 : UInt8), (114 : UInt8), (117 : UInt8), (101 : UInt8)] : List UInt8) || s == ([(102 : UInt8), (97 : UInt8), (108 : UInt8), (115 : UInt8), (101 : UInt8)] : List UInt8) then sBool else jbody (Nat.ble 5001 s.length) (unminus s)

theorem isEmpty_len (l : List UInt8) : (l.length == 0) = l.isEmpty := by cases l <;> rfl
theorem wholeS_spec (n : Nat) (s : List UInt8) (hs : s.length ≤ 1000000) : wholeS n s = some (bif badw (unminus s) then [] else (unminus s).drop (run (unminus s)).length, !badw (unminus s), ()) := by
  unfold wholeS
  rw [trimPrefix_spec, Option.bind_some]
  have hl : (unminus s).length ≤ s.length := by unfold unminus; cases pre [45] s <;> simp
  show (Option.bind (countS (n + 1) (unminus s)) _) = _
  rw [countS_spec _ _ (by omega), Option.bind_some]
  have r1 := run_len (unminus s)
  have hd : (bif pre [45] s then List.drop ([45] : List UInt8).length s else s) = unminus s := rfl
  simp only [hd, show (0 : Int) = ((0 : Nat) : Int) from rfl, show (1 : Int) = ((1 : Nat) : Int) from rfl, beq_nat, isEmpty_len, ilt_nat]
  unfold badw
  cases h1 : (run (unminus s)).isEmpty with
  | true => rfl
  | false =>
    cases h2 : Nat.ble (1 + 1) (run (unminus s)).length with
    | false =>
      simp only [cond_false, Option.bind_some, Bool.false_or, h2, Bool.false_and, len, ile_nat, Nat.ble_eq_true_of_le r1, Nat.ble_eq_true_of_le (Nat.zero_le _), Bool.and_self, cond_true, Int.toNat_natCast, take_all, Bool.not_false]
    | true =>
      have : ∃ c r, unminus s = c :: r := by
        cases hu : unminus s with
        | nil => rw [hu] at h2; cases h2
        | cons c r => exact ⟨c, r, rfl⟩
      obtain ⟨c, r, hu⟩ := this
      rw [hu] at r1 h2 ⊢
      simp only [cond_false, cond_true, List.getElem?_cons_zero, Option.bind_some, Bool.false_or, h2, Bool.true_and, List.head?_cons]
      have : (some c == some (48 : UInt8)) = (c == 48) := rfl
      rw [this]
      cases c == 48 with
      | true => rfl
      | false => simp only [cond_false, len, ile_nat, Nat.ble_eq_true_of_le r1, Nat.ble_eq_true_of_le (Nat.zero_le _), Bool.and_self, cond_true, Int.toNat_natCast, take_all, Bool.not_false]

theorem fracS (n : Nat) (r : List UInt8) (hr : r.length ≤ 1000000) (hn : 10 ≤ n) : (Option.bind (fractionS (n + 1) r) fun y3 =>
  bif y3.2.1 then
    Option.bind (exponentS n y3.1) fun y4 =>
    bif y4.1 then
      some (sFloat, ())
    else
    some (sStr, ())
  else
  some (sStr, ())) = some (jfrac r, ()) := by
  have tail : ∀ t : List UInt8, t.length ≤ 1000000 → (Option.bind (exponentS n t) fun y4 => bif y4.1 then some (sFloat, ()) else some (sStr, ())) = some (jtail t, ()) := fun t ht => by
    rw [exponentS_spec n t ht hn, Option.bind_some]; unfold jtail; cases expo t <;> rfl
  unfold fractionS
  rw [cutPrefix_spec, Option.bind_some]
  cases r with
  | nil => exact tail [] (by simp)
  | cons c r =>
    simp only [List.length_cons] at hr
    rw [pre1, jfrac_cons]
    cases c == 46 with
    | false => exact tail (c :: r) (by simp only [List.length_cons]; omega)
    | true =>
      have r1 := run_len r
      simp only [cond_true, Bool.not_true, cond_false, List.length_cons, List.length_nil, Nat.zero_add, List.drop_succ_cons, List.drop_zero]
      rw [countS_spec _ r (by omega), Option.bind_some]
      simp only [len, show (0 : Int) = ((0 : Nat) : Int) from rfl, ile_nat, ilt_nat, Nat.ble_eq_true_of_le r1, Nat.ble_eq_true_of_le (Nat.zero_le _), Bool.and_self, cond_true, Int.toNat_natCast, take_all, Option.bind_some]
      cases hq : run r with
      | nil => rfl
      | cons a b => exact tail _ (by simp only [List.length_drop]; omega)

theorem jsonS_spec (n : Nat) (s : List UInt8) (hs : s.length ≤ 1000000) (hn : 10 ≤ n) : jsonS n s = some (jname s, ()) := by
  unfold jsonS jname
  cases h1 : (s == ([] : List UInt8)) with
  | true => rfl
  | false =>
  cases h2 : (s == ([(110 : UInt8), (117 : UInt8), (108 : UInt8), (108 : UInt8)] : List UInt8)) with
  | true => rfl
  | false =>
  cases h3 : (s == ([(116 : UInt8), (114 : UInt8), (117 : UInt8), (101 : UInt8)] : List UInt8)) with
  | true => rfl
  | false =>
  cases h4 : (s == ([(102 : UInt8), (97 : UInt8), (108 : UInt8), (115 : UInt8), (101 : UInt8)] : List UInt8)) with
  | true => rfl
  | false =>
    simp only [cond_false, Bool.or_false]
    rw [wholeS_spec _ s hs, Option.bind_some]
    have hl : (unminus s).length ≤ s.length := by unfold unminus; cases pre [45] s <;> simp
    simp only [len, show (5000 : Int) = ((5000 : Nat) : Int) from rfl, ilt_nat]
    unfold jbody
    cases Nat.ble (5000 + 1) s.length with
    | true => simp only [cond_true, Option.bind_some, Bool.or_true]; rfl
    | false =>
      cases hb : badw (unminus s) with
      | true => rfl
      | false =>
        simp only [Bool.not_false, Bool.not_true, cond_false, Option.bind_some, Bool.or_false]
        have e : ((unminus s).drop (run (unminus s)).length == ([] : List UInt8)) = ((unminus s).drop (run (unminus s)).length).isEmpty := beq_nil _
        rw [e]
        cases h5 : ((unminus s).drop (run (unminus s)).length).isEmpty with
        | true => rfl
        | false => exact fracS n _ (by simp only [List.length_drop]; omega) hn
end Go.Proofs.YtbkdijjliabfdaaDoor

/- Plain functions for the program's. -/
namespace Go.Proofs.YtbkdijjliabfdaaDoor
open Go Go.Iv Go.Gv
set_option maxRecDepth 100000
set_option linter.unusedVariables false
noncomputable def digitsR_or (Fr : Nat → Int → Option ((List UInt8) × Unit)) : FnIt := ⟨10, [(false, (.int .i64))], [(false, .str)], 0, fun n x => Fr n x.1⟩

noncomputable def digitsR_b (Fr : Nat → Int → Option ((List UInt8) × Unit)) (n : Nat) (m : Int) : Option ((List UInt8) × Unit) :=
  bif ((Go.Iv.ile (0 : Int) (Go.IntKind.wrap Go.IntKind.i64 ((Int.tmod m (10 : Int)) + (1 : Int)))) && (Go.Iv.ile (Go.IntKind.wrap Go.IntKind.i64 ((Int.tmod m (10 : Int)) + (1 : Int))) (10 : Int))) then
  bif ((Go.Iv.ile (0 : Int) (Int.tmod m (10 : Int))) && (Go.Iv.ile (Int.tmod m (10 : Int)) (((Int.toNat (Go.IntKind.wrap Go.IntKind.i64 ((Int.tmod m (10 : Int)) + (1 : Int)))) : Nat) : Int))) then
  bif (Go.Iv.ilt (9 : Int) m) then
    Option.bind (Fr n (Go.IntKind.wrap Go.IntKind.i64 (Int.tdiv m (10 : Int)))) fun y0 =>
    bif (room ((List.length y0.1) + (List.length (List.take ((Int.toNat (Go.IntKind.wrap Go.IntKind.i64 ((Int.tmod m (10 : Int)) + (1 : Int)))) - (Int.toNat (Int.tmod m (10 : Int)))) (List.drop (Int.toNat (Int.tmod m (10 : Int))) ([(48 : UInt8), (49 : UInt8), (50 : UInt8), (51 : UInt8), (52 : UInt8), (53 : UInt8), (54 : UInt8), (55 : UInt8), (56 : UInt8), (57 : UInt8)] : List UInt8)))))) then
    some ((y0.1 ++ (List.take ((Int.toNat (Go.IntKind.wrap Go.IntKind.i64 ((Int.tmod m (10 : Int)) + (1 : Int)))) - (Int.toNat (Int.tmod m (10 : Int)))) (List.drop (Int.toNat (Int.tmod m (10 : Int))) ([(48 : UInt8), (49 : UInt8), (50 : UInt8), (51 : UInt8), (52 : UInt8), (53 : UInt8), (54 : UInt8), (55 : UInt8), (56 : UInt8), (57 : UInt8)] : List UInt8)))), ())
    else none
  else
  some ((List.take ((Int.toNat (Go.IntKind.wrap Go.IntKind.i64 ((Int.tmod m (10 : Int)) + (1 : Int)))) - (Int.toNat (Int.tmod m (10 : Int)))) (List.drop (Int.toNat (Int.tmod m (10 : Int))) ([(48 : UInt8), (49 : UInt8), (50 : UInt8), (51 : UInt8), (52 : UInt8), (53 : UInt8), (54 : UInt8), (55 : UInt8), (56 : UInt8), (57 : UInt8)] : List UInt8))), ())
  else none
  else none
noncomputable def digitsR_bit (Fr : Nat → Int → Option ((List UInt8) × Unit)) : FnIt := ⟨10, [(false, (.int .i64))], [(false, .str)], 1, fun n x => digitsR_b Fr n x.1⟩
theorem digitsR_bok (Fr : Nat → Int → Option ((List UInt8) × Unit)) (hFr : ∀ m, FnOK Go.Proofs.Tryd.prog hint shT (digitsR_or Fr) m) (n : Nat) : FnOK Go.Proofs.Tryd.prog hint shT (digitsR_bit Fr) n :=
  FnOK.of (hk := fun β => (Known.mk [(digitsR_or Fr)] []).hk β) (sh := shT) (fun m _ => KnownOK.hook (KnownOK.nil.fn hFr) m) (fun x => by kernel_rfl)
noncomputable def digitsR_d : Nat → Nat → Int → Option ((List UInt8) × Unit)
  | 0, _, _ => none
  | d + 1, n, m => bif Nat.ble 1 n then digitsR_b (digitsR_d d) (n - 1) m else none
noncomputable def digitsR (n : Nat) (m : Int) : Option ((List UInt8) × Unit) := digitsR_d n n m
noncomputable def digitsR_it : FnIt := ⟨10, [(false, (.int .i64))], [(false, .str)], 0, fun n x => digitsR n x.1⟩
theorem digitsR_ok (n : Nat) : FnOK Go.Proofs.Tryd.prog hint shT digitsR_it n :=
  FnOK.diag (f := 10) (pa := [(false, (.int .i64))]) (re := [(false, .str)]) (fun d n x => digitsR_d d n x.1) (FnOK.byDepth (f := 10) (pa := [(false, (.int .i64))]) (re := [(false, .str)]) (D := 1) (fun G n x => digitsR_b (fun n m => G n (m, ())) n x.1) _ (fun _ _ => rfl) (fun _ _ _ => rfl) (fun G h n => digitsR_bok (fun n m => G n (m, ())) h n)) n


end Go.Proofs.YtbkdijjliabfdaaDoor

/- Plain functions for the program's. -/
namespace Go.Proofs.YtbkdijjliabfdaaDoor
open Go Go.Iv Go.Gv
set_option maxRecDepth 100000
set_option linter.unusedVariables false
noncomputable def schemaWider (n : Nat) (s : List UInt8) : Option (Bool × Unit) :=
  Option.bind (alive n ) fun y0 =>
  Option.bind (bif (!y0.1) then
      some Bool.true
    else
    some (Go.Iv.ilt (300 : Int) (len s))) fun b2 =>
  bif b2 then
    some (y0.1, ())
  else
  Option.bind (resolveS (n + 1) (1 : Int) ([] : List UInt8) s Bool.true (1 : Int)) fun y3 =>
  Option.bind (resolveS (n + 1) (1 : Int) ([] : List UInt8) s Bool.true (2 : Int)) fun y4 =>
  bif (y3.1 == ([(116 : UInt8), (97 : UInt8), (103 : UInt8), (58 : UInt8), (121 : UInt8), (97 : UInt8), (109 : UInt8), (108 : UInt8), (46 : UInt8), (111 : UInt8), (114 : UInt8), (103 : UInt8), (44 : UInt8), (50 : UInt8), (48 : UInt8), (48 : UInt8), (50 : UInt8), (58 : UInt8), (115 : UInt8), (116 : UInt8), (114 : UInt8)] : List UInt8)) then
    Option.bind (resolveS (n + 1) (1 : Int) ([] : List UInt8) s Bool.true (0 : Int)) fun y5 =>
    bif (y5.1 == ([(116 : UInt8), (97 : UInt8), (103 : UInt8), (58 : UInt8), (121 : UInt8), (97 : UInt8), (109 : UInt8), (108 : UInt8), (46 : UInt8), (111 : UInt8), (114 : UInt8), (103 : UInt8), (44 : UInt8), (50 : UInt8), (48 : UInt8), (48 : UInt8), (50 : UInt8), (58 : UInt8), (115 : UInt8), (116 : UInt8), (114 : UInt8)] : List UInt8)) then
      Option.bind (resolveS (n + 1) (1 : Int) ([] : List UInt8) s Bool.false (2 : Int)) fun y6 =>
      bif (y6.1 == ([(116 : UInt8), (97 : UInt8), (103 : UInt8), (58 : UInt8), (121 : UInt8), (97 : UInt8), (109 : UInt8), (108 : UInt8), (46 : UInt8), (111 : UInt8), (114 : UInt8), (103 : UInt8), (44 : UInt8), (50 : UInt8), (48 : UInt8), (48 : UInt8), (50 : UInt8), (58 : UInt8), (115 : UInt8), (116 : UInt8), (114 : UInt8)] : List UInt8)) then
        Option.bind (resolveS (n + 1) (1 : Int) ([(33 : UInt8)] : List UInt8) s Bool.true (2 : Int)) fun y7 =>
        some ((y7.1 == ([(116 : UInt8), (97 : UInt8), (103 : UInt8), (58 : UInt8), (121 : UInt8), (97 : UInt8), (109 : UInt8), (108 : UInt8), (46 : UInt8), (111 : UInt8), (114 : UInt8), (103 : UInt8), (44 : UInt8), (50 : UInt8), (48 : UInt8), (48 : UInt8), (50 : UInt8), (58 : UInt8), (115 : UInt8), (116 : UInt8), (114 : UInt8)] : List UInt8)), ())
      else
      some (Bool.false, ())
    else
    some (Bool.false, ())
  else
  bif (y3.1 == y4.1) then
    Option.bind (resolveS (n + 1) (1 : Int) ([] : List UInt8) s Bool.true (0 : Int)) fun y8 =>
    bif (y8.1 == ([(116 : UInt8), (97 : UInt8), (103 : UInt8), (58 : UInt8), (121 : UInt8), (97 : UInt8), (109 : UInt8), (108 : UInt8), (46 : UInt8), (111 : UInt8), (114 : UInt8), (103 : UInt8), (44 : UInt8), (50 : UInt8), (48 : UInt8), (48 : UInt8), (50 : UInt8), (58 : UInt8), (115 : UInt8), (116 : UInt8), (114 : UInt8)] : List UInt8)) then
      Option.bind (resolveS (n + 1) (1 : Int) ([] : List UInt8) s Bool.false (2 : Int)) fun y9 =>
      bif (y9.1 == ([(116 : UInt8), (97 : UInt8), (103 : UInt8), (58 : UInt8), (121 : UInt8), (97 : UInt8), (109 : UInt8), (108 : UInt8), (46 : UInt8), (111 : UInt8), (114 : UInt8), (103 : UInt8), (44 : UInt8), (50 : UInt8), (48 : UInt8), (48 : UInt8), (50 : UInt8), (58 : UInt8), (115 : UInt8), (116 : UInt8), (114 : UInt8)] : List UInt8)) then
        Option.bind (resolveS (n + 1) (1 : Int) ([(33 : UInt8)] : List UInt8) s Bool.true (2 : Int)) fun y10 =>
        some ((y10.1 == ([(116 : UInt8), (97 : UInt8), (103 : UInt8), (58 : UInt8), (121 : UInt8), (97 : UInt8), (109 : UInt8), (108 : UInt8), (46 : UInt8), (111 : UInt8), (114 : UInt8), (103 : UInt8), (44 : UInt8), (50 : UInt8), (48 : UInt8), (48 : UInt8), (50 : UInt8), (58 : UInt8), (115 : UInt8), (116 : UInt8), (114 : UInt8)] : List UInt8)), ())
      else
      some (Bool.false, ())
    else
    some (Bool.false, ())
  else
  some (Bool.false, ())
noncomputable def schemaWider_it : FnIt := ⟨3, [(false, .str)], [(false, .bool)], 11, fun n x => schemaWider n x.1⟩
theorem schemaWider_ok (n : Nat) : FnOK Go.Proofs.Tryd.prog hint shT schemaWider_it n :=
  FnOK.of (hk := fun β => (Known.mk [resolveS_it, alive_it] []).hk β) (sh := shT) (fun m _ => KnownOK.hook ((KnownOK.nil.fn alive_ok).fn resolveS_ok) m) (fun x => by kernel_rfl)

noncomputable def schemaFits (n : Nat) (s : List UInt8) (which : Int) : Option (Bool × Unit) :=
  Option.bind (alive n ) fun y0 =>
  Option.bind (bif (!y0.1) then
      some Bool.true
    else
    bif (Go.Iv.ilt (300 : Int) (len s)) then
      some Bool.true
    else
    bif (Go.Iv.ilt which (0 : Int)) then
      some Bool.true
    else
    some (Go.Iv.ilt (2 : Int) which)) fun b2 =>
  bif b2 then
    some (y0.1, ())
  else
  Option.bind (resolveS (n + 1) (1 : Int) ([] : List UInt8) s Bool.true which) fun y3 =>
  Option.bind (valueS (n + 1) y3.1 s) fun y4 =>
  bif (y4.2.1 != (0 : Int)) then
    some (Bool.false, ())
  else
  bif (y3.1 == ([(116 : UInt8), (97 : UInt8), (103 : UInt8), (58 : UInt8), (121 : UInt8), (97 : UInt8), (109 : UInt8), (108 : UInt8), (46 : UInt8), (111 : UInt8), (114 : UInt8), (103 : UInt8), (44 : UInt8), (50 : UInt8), (48 : UInt8), (48 : UInt8), (50 : UInt8), (58 : UInt8), (110 : UInt8), (117 : UInt8), (108 : UInt8), (108 : UInt8)] : List UInt8)) then
    some ((y4.1.1 == (1 : Int)), ())
  else
  bif (y3.1 == ([(116 : UInt8), (97 : UInt8), (103 : UInt8), (58 : UInt8), (121 : UInt8), (97 : UInt8), (109 : UInt8), (108 : UInt8), (46 : UInt8), (111 : UInt8), (114 : UInt8), (103 : UInt8), (44 : UInt8), (50 : UInt8), (48 : UInt8), (48 : UInt8), (50 : UInt8), (58 : UInt8), (98 : UInt8), (111 : UInt8), (111 : UInt8), (108 : UInt8)] : List UInt8)) then
    some ((y4.1.1 == (2 : Int)), ())
  else
  bif (y3.1 == ([(116 : UInt8), (97 : UInt8), (103 : UInt8), (58 : UInt8), (121 : UInt8), (97 : UInt8), (109 : UInt8), (108 : UInt8), (46 : UInt8), (111 : UInt8), (114 : UInt8), (103 : UInt8), (44 : UInt8), (50 : UInt8), (48 : UInt8), (48 : UInt8), (50 : UInt8), (58 : UInt8), (105 : UInt8), (110 : UInt8), (116 : UInt8)] : List UInt8)) then
    some ((y4.1.1 == (3 : Int)), ())
  else
  bif (y3.1 == ([(116 : UInt8), (97 : UInt8), (103 : UInt8), (58 : UInt8), (121 : UInt8), (97 : UInt8), (109 : UInt8), (108 : UInt8), (46 : UInt8), (111 : UInt8), (114 : UInt8), (103 : UInt8), (44 : UInt8), (50 : UInt8), (48 : UInt8), (48 : UInt8), (50 : UInt8), (58 : UInt8), (102 : UInt8), (108 : UInt8), (111 : UInt8), (97 : UInt8), (116 : UInt8)] : List UInt8)) then
    some ((y4.1.1 == (4 : Int)), ())
  else
  Option.bind (bif (y4.1.1 == (5 : Int)) then
      bif (y4.1.2.2.2 == s) then
        some (y3.1 == ([(116 : UInt8), (97 : UInt8), (103 : UInt8), (58 : UInt8), (121 : UInt8), (97 : UInt8), (109 : UInt8), (108 : UInt8), (46 : UInt8), (111 : UInt8), (114 : UInt8), (103 : UInt8), (44 : UInt8), (50 : UInt8), (48 : UInt8), (48 : UInt8), (50 : UInt8), (58 : UInt8), (115 : UInt8), (116 : UInt8), (114 : UInt8)] : List UInt8))
      else
      some Bool.false
    else
    some Bool.false) fun b6 =>
  some (b6, ())
noncomputable def schemaFits_it : FnIt := ⟨4, [(false, .str), (false, (.int .i64))], [(false, .bool)], 11, fun n x => schemaFits n x.1 x.2.1⟩
theorem schemaFits_ok (n : Nat) : FnOK Go.Proofs.Tryd.prog hint shT schemaFits_it n :=
  FnOK.of (hk := fun β => (Known.mk [valueS_it, resolveS_it, alive_it] []).hk β) (sh := shT) (fun m _ => KnownOK.hook (((KnownOK.nil.fn alive_ok).fn resolveS_ok).fn valueS_ok) m) (fun x => by kernel_rfl)


end Go.Proofs.YtbkdijjliabfdaaDoor

/- Law 19: tags and values. -/
namespace Go.Proofs.YtbkdijjliabfdaaDoor
open Go Go.Iv Go.Gv
set_option linter.unusedSimpArgs false
set_option linter.unusedVariables false
set_option maxRecDepth 20000

/-! ### Words -/
def nul (s : List UInt8) : Bool := s == [] || (s == ([(126 : UInt8)] : List UInt8) || (s == ([(110 : UInt8), (117 : UInt8), (108 : UInt8), (108 : UInt8)] : List UInt8) || (s == ([(78 : UInt8), (117 : UInt8), (108 : UInt8), (108 : UInt8)] : List UInt8) || s == ([(78 : UInt8), (85 : UInt8), (76 : UInt8), (76 : UInt8)] : List UInt8))))
def tru (s : List UInt8) : Bool := s == ([(116 : UInt8), (114 : UInt8), (117 : UInt8), (101 : UInt8)] : List UInt8) || (s == ([(84 : UInt8), (114 : UInt8), (117 : UInt8), (101 : UInt8)] : List UInt8) || s == ([(84 : UInt8), (82 : UInt8), (85 : UInt8), (69 : UInt8)] : List UInt8))
def fls (s : List UInt8) : Bool := s == ([(102 : UInt8), (97 : UInt8), (108 : UInt8), (115 : UInt8), (101 : UInt8)] : List UInt8) || (s == ([(70 : UInt8), (97 : UInt8), (108 : UInt8), (115 : UInt8), (101 : UInt8)] : List UInt8) || s == ([(70 : UInt8), (65 : UInt8), (76 : UInt8), (83 : UInt8), (69 : UInt8)] : List UInt8))
theorem nullS_spec (n : Nat) (s : List UInt8) : nullS n s = some (nul s, ()) := by
  unfold nullS nul
  cases s == ([] : List UInt8) <;> cases s == ([(126 : UInt8)] : List UInt8) <;> cases s == ([(110 : UInt8), (117 : UInt8), (108 : UInt8), (108 : UInt8)] : List UInt8) <;> cases s == ([(78 : UInt8), (117 : UInt8), (108 : UInt8), (108 : UInt8)] : List UInt8) <;> rfl
theorem truthS_spec (n : Nat) (s : List UInt8) : truthS n s = some (tru s, tru s || fls s, ()) := by
  unfold truthS tru fls
  cases s == ([(116 : UInt8), (114 : UInt8), (117 : UInt8), (101 : UInt8)] : List UInt8) <;> cases s == ([(84 : UInt8), (114 : UInt8), (117 : UInt8), (101 : UInt8)] : List UInt8) <;> cases s == ([(84 : UInt8), (82 : UInt8), (85 : UInt8), (69 : UInt8)] : List UInt8) <;> cases s == ([(102 : UInt8), (97 : UInt8), (108 : UInt8), (115 : UInt8), (101 : UInt8)] : List UInt8) <;> cases s == ([(70 : UInt8), (97 : UInt8), (108 : UInt8), (115 : UInt8), (101 : UInt8)] : List UInt8) <;> cases s == ([(70 : UInt8), (65 : UInt8), (76 : UInt8), (83 : UInt8), (69 : UInt8)] : List UInt8) <;> rfl

theorem beq_comm8 (a b : List UInt8) : (a == b) = (b == a) := by rw [Bool.eq_iff_iff, beq_iff_eq, beq_iff_eq]; exact eq_comm
def cname (s : List UInt8) : List UInt8 := bif nul s then sNull else bif tru s || fls s then sBool else bif (iv s).2.1 then sInt else bif (fl s).2.1 then sFloat else sStr
theorem coreS_spec (n : Nat) (s : List UInt8) (hs : s.length ≤ 6000) (hn : 20000 ≤ n) : coreS n s = some (cname s, ()) := by
  unfold coreS cname
  rw [truthS_spec, Option.bind_some, int_spec (n + 2) s (by omega), Option.bind_some, float_spec n s hs (by omega), Option.bind_some, nullS_spec, Option.bind_some]
  cases nul s <;> cases tru s || fls s <;> cases (iv s).2.1 <;> cases (fl s).2.1 <;> rfl
def deft (kind : Int) : List UInt8 := bif kind == 1 then yml ++ sStr else bif kind == 2 then yml ++ ([(115 : UInt8), (101 : UInt8), (113 : UInt8)] : List UInt8) else bif kind == 3 then yml ++ ([(109 : UInt8), (97 : UInt8), (112 : UInt8)] : List UInt8) else []
theorem defaultS_spec (n : Nat) (k : Int) : defaultS n k = some (deft k, ()) := by
  unfold defaultS deft
  cases k == 1 <;> cases k == 2 <;> cases k == 3 <;> rfl
def res (kind : Int) (tag s : List UInt8) (pl : Bool) (which : Int) : List UInt8 :=
  bif !(tag == []) && !(tag == ([(33 : UInt8)] : List UInt8)) then tag else bif tag == ([(33 : UInt8)] : List UInt8) || (kind != 1 || !pl) then deft kind else bif which == 2 then yml ++ cname s else bif which == 1 then yml ++ jname s else deft kind
def word (l : List UInt8) : Prop := l = sNull ∨ l = sBool ∨ l = sInt ∨ l = sFloat ∨ l = sStr
theorem word_len {l : List UInt8} (h : word l) : l.length ≤ 10 := by rcases h with rfl | rfl | rfl | rfl | rfl <;> decide
theorem word_if {b : Bool} {x y : List UInt8} (h : word x) (k : word y) : word (bif b then x else y) := by cases b <;> assumption
theorem wNull : word sNull := .inl rfl
theorem wBool : word sBool := .inr (.inl rfl)
theorem wInt : word sInt := .inr (.inr (.inl rfl))
theorem wFloat : word sFloat := .inr (.inr (.inr (.inl rfl)))
theorem wStr : word sStr := .inr (.inr (.inr (.inr rfl)))
theorem jname_word (s : List UInt8) : word (jname s) := by
  have t : ∀ r, word (jtail r) := fun r => word_if wFloat wStr
  have f : ∀ r, word (jfrac r) := fun r => by
    cases r with
    | nil => exact t []
    | cons c r => exact word_if (word_if wStr (t _)) (t _)
  exact word_if wNull (word_if wBool (word_if wStr (word_if wInt (f _))))
theorem cname_word (s : List UInt8) : word (cname s) := word_if wNull (word_if wBool (word_if wInt (word_if wFloat wStr)))
theorem yml_len : yml.length = 18 := rfl
theorem resolveS_spec (n : Nat) (kind : Int) (tag s : List UInt8) (pl : Bool) (which : Int) (hs : s.length ≤ 6000) (hn : 20000 ≤ n) : resolveS n kind tag s pl which = some (res kind tag s pl which, ()) := by
  have hr : ∀ l, word l → room ((yml ++ l).length) = true := fun l hl => roomle (by rw [List.length_append, yml_len]; have := word_len hl; omega)
  have hr' : ∀ l, word l → room (yml.length + l.length) = true := fun l hl => by rw [← List.length_append]; exact hr l hl
  have h1 : resolveS n kind tag s pl which = (Option.bind (bif (!(tag == ([] : List UInt8))) then some (!(tag == ([(33 : UInt8)] : List UInt8))) else some Bool.false) fun b1 =>
    bif b1 then some (tag, ()) else
    Option.bind (bif (tag == ([(33 : UInt8)] : List UInt8)) then some Bool.true else bif (kind != (1 : Int)) then some Bool.true else some (!pl)) fun b3 =>
    bif b3 then Option.bind (defaultS (n + 8) kind) fun y4 => some (y4.1, ()) else
    bif (which == (2 : Int)) then Option.bind (coreS n s) fun y5 => bif room (yml.length + y5.1.length) then some (yml ++ y5.1, ()) else none else
    bif (which == (1 : Int)) then Option.bind (jsonS (n + 3) s) fun y6 => bif room (yml.length + y6.1.length) then some (yml ++ y6.1, ()) else none else
    Option.bind (defaultS (n + 8) kind) fun y7 => some (y7.1, ())) := rfl
  rw [h1, defaultS_spec, coreS_spec n s hs hn, jsonS_spec (n + 3) s (by omega) (by omega)]
  simp only [Option.bind_some, hr' _ (cname_word s), hr' _ (jname_word s), cond_true]
  unfold res
  cases tag == [] <;> cases tag == ([(33 : UInt8)] : List UInt8) <;> cases kind != 1 <;> cases pl <;> cases which == 2 <;> cases which == 1 <;> rfl
theorem alive_spec (n : Nat) (hn : 20000 ≤ n) : alive n = some (true, ()) := by
  unfold alive
  rw [int_spec (n + 2) _ (by omega), Option.bind_some, float_spec n _ (by decide) (by omega), Option.bind_some]
  rfl

theorem big2 (s tag : List UInt8) : (bif !true then some true else bif ilt 300 (len s) then some true else some (ilt 300 (len tag))) = some (ilt 300 (len s) || ilt 300 (len tag)) := by
  cases ilt 300 (len s) <;> rfl
abbrev Vl := Int × (Bool × (Num × List UInt8))
def zN : Num := (false, ([], (0, 0)))
def noV : Vl × (Int × Unit) := ((0, (false, (zN, []))), 15, ())
def val (tag s : List UInt8) : Vl × (Int × Unit) :=
  bif tag == yml ++ sNull then bif nul s then ((1, (false, (zN, []))), 0, ()) else noV else
  bif tag == yml ++ sBool then bif tru s || fls s then ((2, (tru s, (zN, []))), 0, ()) else noV else
  bif tag == yml ++ sInt then bif (iv s).2.1 then ((3, (false, ((iv s).1, []))), 0, ()) else noV else
  bif tag == yml ++ sFloat then bif (fl s).2.1 then ((4, (false, ((fl s).1, []))), 0, ()) else bif (iv s).2.1 then ((4, (false, ((iv s).1, []))), 0, ()) else noV else
  ((5, (false, (zN, s))), 0, ())
theorem floatS_spec (n : Nat) (s : List UInt8) (hs : s.length ≤ 6000) (hn : 20000 ≤ n) : floatS n s = some (bif (fl s).2.1 then ((fl s).1, (true, ())) else ((iv s).1, ((iv s).2.1, ()))) := by
  unfold floatS
  rw [float_spec n s hs hn, Option.bind_some, int_spec (n + 2) s (by omega), Option.bind_some]
  cases (fl s).2.1 <;> rfl
theorem valueS_spec (n : Nat) (tag s : List UInt8) (hs : s.length ≤ 6000) (hn : 20000 ≤ n) : valueS n tag s = some (val tag s) := by
  unfold valueS
  rw [nullS_spec, truthS_spec, int_spec (n + 3) s (by omega), floatS_spec n s hs hn]
  simp only [Option.bind_some]
  unfold val
  rw [show yml ++ sNull = ([(116 : UInt8), (97 : UInt8), (103 : UInt8), (58 : UInt8), (121 : UInt8), (97 : UInt8), (109 : UInt8), (108 : UInt8), (46 : UInt8), (111 : UInt8), (114 : UInt8), (103 : UInt8), (44 : UInt8), (50 : UInt8), (48 : UInt8), (48 : UInt8), (50 : UInt8), (58 : UInt8), (110 : UInt8), (117 : UInt8), (108 : UInt8), (108 : UInt8)] : List UInt8) from rfl, show yml ++ sBool = ([(116 : UInt8), (97 : UInt8), (103 : UInt8), (58 : UInt8), (121 : UInt8), (97 : UInt8), (109 : UInt8), (108 : UInt8), (46 : UInt8), (111 : UInt8), (114 : UInt8), (103 : UInt8), (44 : UInt8), (50 : UInt8), (48 : UInt8), (48 : UInt8), (50 : UInt8), (58 : UInt8), (98 : UInt8), (111 : UInt8), (111 : UInt8), (108 : UInt8)] : List UInt8) from rfl, show yml ++ sInt = ([(116 : UInt8), (97 : UInt8), (103 : UInt8), (58 : UInt8), (121 : UInt8), (97 : UInt8), (109 : UInt8), (108 : UInt8), (46 : UInt8), (111 : UInt8), (114 : UInt8), (103 : UInt8), (44 : UInt8), (50 : UInt8), (48 : UInt8), (48 : UInt8), (50 : UInt8), (58 : UInt8), (105 : UInt8), (110 : UInt8), (116 : UInt8)] : List UInt8) from rfl, show yml ++ sFloat = ([(116 : UInt8), (97 : UInt8), (103 : UInt8), (58 : UInt8), (121 : UInt8), (97 : UInt8), (109 : UInt8), (108 : UInt8), (46 : UInt8), (111 : UInt8), (114 : UInt8), (103 : UInt8), (44 : UInt8), (50 : UInt8), (48 : UInt8), (48 : UInt8), (50 : UInt8), (58 : UInt8), (102 : UInt8), (108 : UInt8), (111 : UInt8), (97 : UInt8), (116 : UInt8)] : List UInt8) from rfl]
  generalize (tag == ([(116 : UInt8), (97 : UInt8), (103 : UInt8), (58 : UInt8), (121 : UInt8), (97 : UInt8), (109 : UInt8), (108 : UInt8), (46 : UInt8), (111 : UInt8), (114 : UInt8), (103 : UInt8), (44 : UInt8), (50 : UInt8), (48 : UInt8), (48 : UInt8), (50 : UInt8), (58 : UInt8), (110 : UInt8), (117 : UInt8), (108 : UInt8), (108 : UInt8)] : List UInt8)) = x1
  generalize (tag == ([(116 : UInt8), (97 : UInt8), (103 : UInt8), (58 : UInt8), (121 : UInt8), (97 : UInt8), (109 : UInt8), (108 : UInt8), (46 : UInt8), (111 : UInt8), (114 : UInt8), (103 : UInt8), (44 : UInt8), (50 : UInt8), (48 : UInt8), (48 : UInt8), (50 : UInt8), (58 : UInt8), (98 : UInt8), (111 : UInt8), (111 : UInt8), (108 : UInt8)] : List UInt8)) = x2
  generalize (tag == ([(116 : UInt8), (97 : UInt8), (103 : UInt8), (58 : UInt8), (121 : UInt8), (97 : UInt8), (109 : UInt8), (108 : UInt8), (46 : UInt8), (111 : UInt8), (114 : UInt8), (103 : UInt8), (44 : UInt8), (50 : UInt8), (48 : UInt8), (48 : UInt8), (50 : UInt8), (58 : UInt8), (105 : UInt8), (110 : UInt8), (116 : UInt8)] : List UInt8)) = x3
  generalize (tag == ([(116 : UInt8), (97 : UInt8), (103 : UInt8), (58 : UInt8), (121 : UInt8), (97 : UInt8), (109 : UInt8), (108 : UInt8), (46 : UInt8), (111 : UInt8), (114 : UInt8), (103 : UInt8), (44 : UInt8), (50 : UInt8), (48 : UInt8), (48 : UInt8), (50 : UInt8), (58 : UInt8), (102 : UInt8), (108 : UInt8), (111 : UInt8), (97 : UInt8), (116 : UInt8)] : List UInt8)) = x4
  generalize iv s = i
  generalize fl s = f
  obtain ⟨⟨i1, i2, i3, i4⟩, i5, i6⟩ := i
  obtain ⟨⟨f1, f2, f3, f4⟩, f5, f6⟩ := f
  cases x1 with
  | true => cases nul s <;> rfl
  | false =>
    cases x2 with
    | true => cases tru s <;> cases fls s <;> rfl
    | false =>
      cases x3 with
      | true => cases i5 <;> rfl
      | false =>
        cases x4 with
        | true => cases f5 <;> cases i5 <;> rfl
        | false => rfl
end Go.Proofs.YtbkdijjliabfdaaDoor

/- Law 19: what JSON takes for a value Core takes for the same. -/
namespace Go.Proofs.YtbkdijjliabfdaaDoor
open Go Go.Iv Go.Gv
set_option linter.unusedSimpArgs false
set_option linter.unusedVariables false
set_option maxRecDepth 20000

theorem dig_bounds {c : UInt8} (h : dig c = true) : 48 ≤ c.toNat ∧ c.toNat ≤ 57 := by
  unfold dig at h
  simp only [Bool.and_eq_true] at h
  exact ⟨Nat.le_of_ble_eq_true h.1, Nat.le_of_ble_eq_true h.2⟩
theorem ne_of_dig {c d : UInt8} (h : dig c = true) (hd : dig d = false) : (c == d) = false := by
  cases hb : c == d with
  | false => rfl
  | true =>
    have : c = d := by simpa using hb
    rw [this, hd] at h; cases h
theorem allD_allg : ∀ {d : List UInt8}, allg d = true → allD 10 d = true
  | [], _ => rfl
  | c :: r, h => by
    simp only [allg, Bool.and_eq_true] at h
    simp only [allD, okd_dig c, h.1, allD_allg h.2, Bool.and_self]
theorem run_allg : ∀ (s : List UInt8), allg (run s) = true
  | [] => rfl
  | c :: r => by
    have ih := run_allg r
    unfold run at ih ⊢
    rw [List.takeWhile_cons]
    cases h : dig c with
    | false => rfl
    | true => simp only [if_true, allg, h, Bool.true_and]; exact ih
/-- A digit's head. -/
theorem run_head {s : List UInt8} (h : (run s).isEmpty = false) : ∃ c r, s = c :: r ∧ dig c = true := by
  cases s with
  | nil => cases h
  | cons c r =>
    refine ⟨c, r, rfl, ?_⟩
    unfold run at h
    rw [List.takeWhile_cons] at h
    cases hd : dig c with
    | true => rfl
    | false => rw [hd] at h; cases h
theorem split_run (s : List UInt8) : run s ++ s.drop (run s).length = s := by rw [run_drop]; exact List.takeWhile_append_dropWhile

/-- What a text is that begins as a number. -/
structure Numb (s : List UInt8) : Prop where
  len : s.length ≤ 5000
  ne : (run (unminus s)).isEmpty = false
  sg : (sgn s).1 = unminus s
  noO : pre [48, 111] s = false
  noX : pre [48, 120] s = false

theorem numb_of {s : List UInt8} (hl : s.length ≤ 5000) (hb : badw (unminus s) = false) (hr : ∀ b q, (unminus s).drop (run (unminus s)).length = b :: q → (b == 111) = false ∧ (b == 120) = false) : Numb s := by
  unfold badw at hb
  simp only [Bool.or_eq_false_iff] at hb
  obtain ⟨h1, h2⟩ := hb
  obtain ⟨c, r, hc, hd⟩ := run_head h1
  have n45 : dig 45 = false := by decide
  have n43 : dig 43 = false := by decide
  cases s with
  | nil => unfold unminus at hc; cases hc
  | cons a t =>
    unfold unminus at hc
    rw [pre1] at hc
    cases ha : a == 45 with
    | true =>
      have : a = 45 := by simpa using ha
      subst this
      exact ⟨hl, h1, by unfold unminus; rw [pre1]; rfl, rfl, rfl⟩
    | false =>
      rw [ha] at hc
      simp only [cond_false, List.cons.injEq] at hc
      obtain ⟨rfl, rfl⟩ := hc
      have hu : unminus (a :: t) = a :: t := by unfold unminus; rw [pre1, ha]; rfl
      have e43 := ne_of_dig hd n43
      refine ⟨hl, h1, ?_, ?_, ?_⟩
      · rw [hu]; simp only [sgn, ha, e43, cond_false]
      all_goals
        rw [hu] at h2
        simp only [pre]
        cases h48 : a == 48 with
        | false => rfl
        | true =>
          cases t with
          | nil => rfl
          | cons b q =>
            cases hb : dig b with
            | true =>
              exfalso
              have : Nat.ble 2 (run (a :: b :: q)).length = true := by
                unfold run
                rw [List.takeWhile_cons, hd, List.takeWhile_cons, hb]
                simp
              rw [this] at h2
              have e48 : a = 48 := by simpa using h48
              subst e48
              cases h2
            | false =>
              have e : run (a :: b :: q) = [a] := by
                unfold run
                rw [List.takeWhile_cons, hd, List.takeWhile_cons, hb]
                simp
              have := hr b q (by rw [hu, e]; rfl)
              simp only [pre, this.1, this.2, Bool.false_and, Bool.and_false]

theorem numb_iv {s : List UInt8} (h : Numb s) : (iv s).2.1 = allg (unminus s) := by
  unfold iv
  rw [h.noO, h.noX]
  simp only [cond_false]
  rw [h.sg]
  unfold fin pl
  have hl : (unminus s).length ≤ 5000 := Nat.le_trans (by unfold unminus; cases pre [45] s <;> simp) h.len
  have he : (unminus s).isEmpty = false := by
    cases hu : unminus s with
    | nil => have := h.ne; rw [hu] at this; cases this
    | cons a b => rfl
  rw [he, ilt_f (show len (unminus s) ≤ 5000 by unfold len; omega)]
  simp only [Bool.false_or]
  have : allD 10 (unminus s) = allg (unminus s) := by
    cases hg : allg (unminus s) with
    | true => exact allD_allg hg
    | false =>
      cases hd : allD 10 (unminus s) with
      | false => rfl
      | true =>
        exfalso
        have key : ∀ l : List UInt8, (∀ c ∈ l, okd 10 c = true) → allg l = true := by
          intro l
          induction l with
          | nil => intro _; rfl
          | cons c r ih =>
            intro hc
            simp only [allg, Bool.and_eq_true]
            refine ⟨?_, ih fun x hx => hc x (List.mem_cons_of_mem _ hx)⟩
            have h1 := hc c (List.mem_cons_self ..)
            unfold okd hv at h1
            have hu : ub c = (c.toNat : Int) := rfl
            have hlt := c.toNat_lt
            unfold dig
            rw [Bool.and_eq_true, Nat.ble_eq, Nat.ble_eq]
            split at h1
            · omega
            · split at h1
              · simp only [decide_eq_true_eq] at h1; omega
              · split at h1 <;> (simp only [decide_eq_true_eq] at h1; omega)
        rw [key _ (allD_mem hd)] at hg; cases hg
  rw [this]
  cases allg (unminus s) <;> rfl

/-- The first sign is none of a word's. -/
theorem numb_first {s : List UInt8} (h : Numb s) : ∃ c r, s = c :: r ∧ (dig c = true ∨ c = 45) := by
  obtain ⟨c, r, hc, hd⟩ := run_head h.ne
  cases s with
  | nil => unfold unminus at hc; cases hc
  | cons a t =>
    refine ⟨a, t, rfl, ?_⟩
    unfold unminus at hc
    rw [pre1] at hc
    cases ha : a == 45 with
    | true => exact .inr (by simpa using ha)
    | false => rw [ha] at hc; cases hc; exact .inl hd
theorem numb_word {s : List UInt8} (h : Numb s) (c : UInt8) (l : List UInt8) (hc : dig c = false) (h45 : (c == 45) = false) : (s == c :: l) = false := by
  obtain ⟨a, r, rfl, ha⟩ := numb_first h
  cases hb : (a :: r == c :: l) with
  | false => rfl
  | true =>
    have e : a :: r = c :: l := by simpa using hb
    cases e
    rcases ha with ha | rfl
    · rw [ha] at hc; cases hc
    · simp at h45
theorem numb_words {s : List UInt8} (h : Numb s) : nul s = false ∧ tru s = false ∧ fls s = false := by
  have h0 : (s == ([] : List UInt8)) = false := by obtain ⟨a, r, rfl, _⟩ := numb_first h; rfl
  unfold nul tru fls
  simp only [h0, numb_word h _ _ (show dig 126 = false by decide) (by decide), numb_word h _ _ (show dig 110 = false by decide) (by decide), numb_word h _ _ (show dig 78 = false by decide) (by decide),
    numb_word h _ _ (show dig 116 = false by decide) (by decide), numb_word h _ _ (show dig 84 = false by decide) (by decide), numb_word h _ _ (show dig 102 = false by decide) (by decide), numb_word h _ _ (show dig 70 = false by decide) (by decide),
    Bool.or_self, and_self]

/-! ### Floats -/
theorem unsign_sgn (r : List UInt8) : unsign r = (sgn r).1 := by
  cases r with
  | nil => rfl
  | cons c r => rw [unsign_cons]; simp only [sgn]; cases c == 45 <;> cases c == 43 <;> rfl
theorem okj_okx (t : List UInt8) (h : okj t = true) : okx t = true := by
  unfold okj at h
  simp only [Bool.and_eq_true] at h
  obtain ⟨⟨h1, h2⟩, h3⟩ := h
  have h1' : (run t).length = t.length := by simpa using h1
  rw [h1'] at h2 h3
  unfold okx
  have he : t.isEmpty = false := by cases t with | nil => cases h2 | cons a b => rfl
  rw [he, h3, (run_all t).1 h1']; rfl
theorem expo_ex (v : List UInt8) (h : expo v = true) : (ex v).2 = true := by
  cases v with
  | nil => rfl
  | cons c r =>
    rw [expo_cons] at h
    simp only [Bool.and_eq_true] at h
    have h1 : (c != 101 && c != 69) = false := by
      have := h.1
      unfold bne
      cases hc : c == 101 <;> cases hd : c == 69 <;> simp_all
    rw [unsign_sgn] at h
    simp only [ex, h1, cond_false, okj_okx _ h.2, cond_true]
theorem numb_fl {s w p v : List UInt8} {b : Bool} (h : Numb s) (hn : num (unminus s) (sgn s).2 = tail w p v (sgn s).2) (hw : w.isEmpty = false) (hl : w.length + p.length ≤ 5000) (hv : expo v = true) : (fl s).2.1 = true := by
  unfold fl
  have h1 : isNan s = false := by
    unfold isNan
    simp only [numb_word h _ _ (show dig 46 = false by decide) (by decide), Bool.or_self]
  have h2 : isInf (sgn s).1 = false := by
    rw [h.sg]
    obtain ⟨c, r, hc, hd⟩ := run_head h.ne
    rw [hc]
    have ne : ∀ l : List UInt8, (c :: r == 46 :: l) = false := fun l => by
      have := ne_of_dig hd (show dig 46 = false by decide)
      cases hb : (c :: r == 46 :: l) with
      | false => rfl
      | true =>
        have e : c :: r = 46 :: l := by simpa using hb
        cases e; simp at this
    unfold isInf
    simp only [ne, Bool.or_self]
  rw [h1, h2, h.sg]
  simp only [cond_false]
  rw [hn]
  unfold tail
  rw [expo_ex v hv, hw, ilt_f (show len w + len p ≤ 5000 by unfold len; omega)]
  rfl

theorem unminus_len (s : List UInt8) : (unminus s).length ≤ s.length := by unfold unminus; cases pre [45] s <;> simp

/-- JSON's name is 'str', or Core's. -/
theorem wider (s : List UInt8) (hs : s.length ≤ 300) : jname s = sStr ∨ jname s = cname s := by
  unfold jname
  cases h0 : s == ([] : List UInt8) || s == [110, 117, 108, 108] with
  | true =>
    right
    have : nul s = true := by
      unfold nul
      simp only [Bool.or_eq_true] at h0
      rcases h0 with h | h <;> rw [h] <;> simp
    unfold cname; rw [this]; rfl
  | false =>
    simp only [cond_false]
    cases h1 : s == [116, 114, 117, 101] || s == [102, 97, 108, 115, 101] with
    | true =>
      right
      have : s = [116, 114, 117, 101] ∨ s = [102, 97, 108, 115, 101] := by simpa using h1
      rcases this with rfl | rfl <;> rfl
    | false =>
      simp only [cond_false]
      have hbig : Nat.ble 5001 s.length = false := by
        cases h : Nat.ble 5001 s.length with
        | false => rfl
        | true => have := Nat.le_of_ble_eq_true h; omega
      rw [hbig]
      unfold jbody
      cases hb : badw (unminus s) with
      | true => exact .inl rfl
      | false =>
        simp only [Bool.or_self, cond_false]
        have hul := unminus_len s
        have hsp := split_run (unminus s)
        cases hr : (unminus s).drop (run (unminus s)).length with
        | nil =>
          right
          have hN := numb_of (s := s) (by omega) hb (fun b q h => by rw [hr] at h; cases h)
          have hg : allg (unminus s) = true := by
            rw [hr, List.append_nil] at hsp
            rw [← hsp]; exact run_allg _
          unfold cname
          obtain ⟨a1, a2, a3⟩ := numb_words hN
          rw [a1, a2, a3, numb_iv hN, hg]; rfl
        | cons c r =>
          have hE : (c :: r).isEmpty = false := rfl
          rw [hE, jfrac_cons]
          simp only [cond_false]
          have hnd : dig c = false := by
            have hd := run_drop (unminus s)
            rw [hr] at hd
            cases hc : dig c with
            | false => rfl
            | true =>
              exfalso
              have key : ∀ l : List UInt8, ∀ c r, l.dropWhile dig = c :: r → dig c = false := by
                intro l
                induction l with
                | nil => intro c r h; cases h
                | cons x l ih =>
                  intro c r h
                  rw [List.dropWhile_cons] at h
                  cases hx : dig x with
                  | true => rw [hx] at h; exact ih c r h
                  | false => rw [hx] at h; cases h; exact hx
              rw [key _ _ _ hd.symm] at hc; cases hc
          have notall : allg (unminus s) = false := by
            cases hg : allg (unminus s) with
            | false => rfl
            | true =>
              have := run_id _ hg
              rw [this, List.drop_length] at hr; cases hr
          have fin_ : Numb s → (fl s).2.1 = true → sFloat = cname s := fun hN hf => by
            unfold cname
            obtain ⟨a1, a2, a3⟩ := numb_words hN
            rw [a1, a2, a3, numb_iv hN, notall, hf]; rfl
          have hwE := (show (run (unminus s)).isEmpty = false from by unfold badw at hb; simp only [Bool.or_eq_false_iff] at hb; exact hb.1)
          have hrl := run_len (unminus s)
          have hlen : (run (unminus s)).length + (r.length + 1) = (unminus s).length := by
            have : (run (unminus s) ++ (c :: r)).length = (unminus s).length := by rw [← hr, hsp]
            rw [List.length_append, List.length_cons] at this; exact this
          cases hc : c == 46 with
          | true =>
            have e46 : c = 46 := by simpa using hc
            subst e46
            simp only [cond_true]
            cases hr2 : (run r).isEmpty with
            | true => exact .inl rfl
            | false =>
              simp only [cond_false]
              unfold jtail
              cases hx : expo (r.drop (run r).length) with
              | false => exact .inl rfl
              | true =>
                right
                have hN := numb_of (s := s) (by omega) hb (fun b q h => by rw [hr] at h; cases h; exact ⟨by decide, by decide⟩)
                have r2 := run_len r
                refine fin_ hN (numb_fl (w := run (unminus s)) (p := run r) (v := r.drop (run r).length) (b := true) hN ?_ hwE (by omega) hx)
                unfold num
                have d1 : (unminus s).drop ((run (unminus s)).length + 1) = r := by rw [← List.drop_drop, hr]; rfl
                rw [hr, d1, pre1]
                simp only [beq_self_eq_true, cond_true]
                rw [← List.drop_drop, d1]
          | false =>
            simp only [cond_false]
            unfold jtail
            cases hx : expo (c :: r) with
            | false => exact .inl rfl
            | true =>
              right
              have hce : (c == 101 || c == 69) = true := by rw [expo_cons] at hx; simp only [Bool.and_eq_true] at hx; exact hx.1
              have hco : (c == 111) = false ∧ (c == 120) = false := by
                simp only [Bool.or_eq_true] at hce
                rcases hce with h | h
                · have : c = 101 := by simpa using h
                  subst this; exact ⟨by decide, by decide⟩
                · have : c = 69 := by simpa using h
                  subst this; exact ⟨by decide, by decide⟩
              have hN := numb_of (s := s) (by omega) hb (fun b q h => by rw [hr] at h; cases h; exact hco)
              refine fin_ hN (numb_fl (w := run (unminus s)) (p := []) (v := c :: r) (b := true) hN ?_ hwE (by simp; omega) hx)
              unfold num
              rw [hr, pre1, hc]; rfl

theorem wider_all (n : Nat) (s : List UInt8) (hn : 20000 ≤ n) : schemaWider n s = some (true, ()) := by
  unfold schemaWider
  rw [alive_spec n hn, Option.bind_some]
  simp only [Bool.not_true, cond_false, Option.bind_some]
  cases h : ilt 300 (len s) with
  | true => rfl
  | false =>
    have hs : s.length ≤ 300 := by
      rcases Nat.lt_or_ge 300 s.length with h1 | h1
      · rw [ilt_t (show (300 : Int) < len s by unfold len; omega)] at h; cases h
      · exact h1
    simp only [cond_false]
    rw [resolveS_spec (n + 1) 1 [] s true 1 (by omega) (by omega), resolveS_spec (n + 1) 1 [] s true 2 (by omega) (by omega), resolveS_spec (n + 1) 1 [] s true 0 (by omega) (by omega), resolveS_spec (n + 1) 1 [] s false 2 (by omega) (by omega), resolveS_spec (n + 1) 1 _ s true 2 (by omega) (by omega)]
    have e1 : res 1 [] s true 1 = yml ++ jname s := rfl
    have e2 : res 1 [] s true 2 = yml ++ cname s := rfl
    have e3 : res 1 [] s true 0 = yml ++ sStr := rfl
    have e4 : res 1 [] s false 2 = yml ++ sStr := rfl
    have e5 : res 1 [33] s true 2 = yml ++ sStr := rfl
    rw [e1, e2, e3, e4, e5]
    simp only [Option.bind_some]
    have hy : (yml ++ sStr == [116, 97, 103, 58, 121, 97, 109, 108, 46, 111, 114, 103, 44, 50, 48, 48, 50, 58, 115, 116, 114]) = true := by decide
    rw [hy]
    rcases wider s hs with h | h <;> rw [h]
    · rw [hy]; rfl
    · simp only [beq_self_eq_true, cond_true]
      cases (yml ++ cname s == [116, 97, 103, 58, 121, 97, 109, 108, 46, 111, 114, 103, 44, 50, 48, 48, 50, 58, 115, 116, 114]) <;> rfl
theorem wider_spec (s : List UInt8) : schemaWider 30000 s = some (true, ()) := wider_all 30000 s (by decide)

/-! ### Whatever a text is told to be -/
theorem fits_word (n : Nat) (s w : List UInt8) (hs : s.length ≤ 300) (hn : 20000 ≤ n) (hw : w = cname s ∨ w = sStr) : (Option.bind (valueS n (yml ++ w) s) fun y4 =>
  bif (y4.2.1 != 0) then some (Bool.false, ()) else
  bif (yml ++ w == yml ++ sNull) then some ((y4.1.1 == 1), ()) else
  bif (yml ++ w == yml ++ sBool) then some ((y4.1.1 == 2), ()) else
  bif (yml ++ w == yml ++ sInt) then some ((y4.1.1 == 3), ()) else
  bif (yml ++ w == yml ++ sFloat) then some ((y4.1.1 == 4), ()) else
  Option.bind (bif (y4.1.1 == 5) then bif (y4.1.2.2.2 == s) then some (yml ++ w == yml ++ sStr) else some Bool.false else some Bool.false) fun b6 => some (b6, ())) = some (true, ()) := by
  rw [valueS_spec n _ s (by omega) hn, Option.bind_some]
  have str : ∀ v, w = sStr → v = val (yml ++ w) s → (bif (v.2.1 != 0) then some (Bool.false, ()) else
  bif (yml ++ w == yml ++ sNull) then some ((v.1.1 == 1), ()) else
  bif (yml ++ w == yml ++ sBool) then some ((v.1.1 == 2), ()) else
  bif (yml ++ w == yml ++ sInt) then some ((v.1.1 == 3), ()) else
  bif (yml ++ w == yml ++ sFloat) then some ((v.1.1 == 4), ()) else
  Option.bind (bif (v.1.1 == 5) then bif (v.1.2.2.2 == s) then some (yml ++ w == yml ++ sStr) else some Bool.false else some Bool.false) fun b6 => some (b6, ())) = some (true, ()) := by
    rintro v rfl rfl
    have : val (yml ++ sStr) s = ((5, (false, (zN, s))), 0, ()) := rfl
    rw [this]
    simp only [beq_self_eq_true, cond_true]
    rfl
  rcases hw with rfl | rfl
  · have hc : cname s = bif nul s then sNull else bif tru s || fls s then sBool else bif (iv s).2.1 then sInt else bif (fl s).2.1 then sFloat else sStr := rfl
    cases h1 : nul s with
    | true =>
      rw [h1] at hc; simp only [cond_true] at hc
      rw [hc]
      have : val (yml ++ sNull) s = bif nul s then ((1, (false, (zN, []))), 0, ()) else noV := rfl
      rw [this, h1]; rfl
    | false =>
      cases h2 : tru s || fls s with
      | true =>
        rw [h1, h2] at hc; simp only [cond_true, cond_false] at hc
        rw [hc]
        have : val (yml ++ sBool) s = bif tru s || fls s then ((2, (tru s, (zN, []))), 0, ()) else noV := rfl
        rw [this, h2]; rfl
      | false =>
        cases h3 : (iv s).2.1 with
        | true =>
          rw [h1, h2, h3] at hc; simp only [cond_true, cond_false] at hc
          rw [hc]
          have : val (yml ++ sInt) s = bif (iv s).2.1 then ((3, (false, ((iv s).1, []))), 0, ()) else noV := rfl
          rw [this, h3]; rfl
        | false =>
          cases h4 : (fl s).2.1 with
          | true =>
            rw [h1, h2, h3, h4] at hc; simp only [cond_true, cond_false] at hc
            rw [hc]
            have : val (yml ++ sFloat) s = bif (fl s).2.1 then ((4, (false, ((fl s).1, []))), 0, ()) else bif (iv s).2.1 then ((4, (false, ((iv s).1, []))), 0, ()) else noV := rfl
            rw [this, h4]; rfl
          | false =>
            rw [h1, h2, h3, h4] at hc; simp only [cond_true, cond_false] at hc
            exact str _ hc rfl
  · exact str _ rfl rfl
theorem fits_all (n : Nat) (s : List UInt8) (which : Int) (hn : 20000 ≤ n) : schemaFits n s which = some (true, ()) := by
  unfold schemaFits
  rw [alive_spec n hn, Option.bind_some]
  simp only [Bool.not_true, cond_false]
  generalize hX : (bif ilt 300 (len s) then some true else bif ilt which 0 then some true else some (ilt 2 which)) = X
  have hc : X = some true ∨ (X = some false ∧ s.length ≤ 300) := by
    rw [← hX]
    rcases Nat.lt_or_ge 300 s.length with h1 | h1
    · left; rw [ilt_t (show (300 : Int) < len s by unfold len; omega)]; rfl
    · rw [ilt_f (show len s ≤ 300 by unfold len; omega)]
      cases ilt which 0 <;> cases ilt 2 which <;> simp [h1]
  rcases hc with h | ⟨h, hs⟩
  · rw [h]; rfl
  · rw [h, Option.bind_some, cond_false, resolveS_spec (n + 1) 1 [] s true which (by omega) (by omega), Option.bind_some]
    have hw : ∃ w, res 1 [] s true which = yml ++ w ∧ (w = cname s ∨ w = sStr) := by
      have e : res 1 [] s true which = bif which == 2 then yml ++ cname s else bif which == 1 then yml ++ jname s else yml ++ sStr := rfl
      rw [e]
      cases which == 2 with
      | true => exact ⟨_, rfl, .inl rfl⟩
      | false =>
        cases which == 1 with
        | true => exact ⟨_, rfl, (wider s hs).symm⟩
        | false => exact ⟨_, rfl, .inr rfl⟩
    obtain ⟨w, h1, h2⟩ := hw
    rw [h1]
    exact fits_word (n + 1) s w hs (by omega) h2
theorem fits_spec (s : List UInt8) (which : Int) : schemaFits 30000 s which = some (true, ()) := fits_all 30000 s which (by decide)
end Go.Proofs.YtbkdijjliabfdaaDoor
