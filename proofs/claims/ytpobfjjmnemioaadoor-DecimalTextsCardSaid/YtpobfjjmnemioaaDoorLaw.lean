/- Plain functions for the program's. -/
import Derived.Test.YtpobfjjmnemioaaDoorFa
import Derived.Test.YtpobfjjmnemioaaDoorGvPlain
import Derived.Test.YtpobfjjmnemioaaDoorGvRec
set_option linter.unusedSimpArgs false
set_option linter.unusedVariables false
namespace Go.Proofs.YtpobfjjmnemioaaDoor
open Go Go.Iv Go.Gv
set_option maxRecDepth 100000
noncomputable def L21_2_Xexit0 : Tm := ⟨[(3, .one (.int .i64))], [], 64, 64, 1000⟩
noncomputable def L21_2_T : Tm := ⟨[(0, .one (.str)), (3, .one (.int .i64))], [], 64, 64, 1000⟩
noncomputable def L21_2 : Nat → (List UInt8) → Int → Option ((Int × Unit) × Unit)
  | 0, _, _ => none
  | n + 1, t0, t3 =>
    Option.bind (bif (Go.Iv.ilt t3 (len t0)) then
        bif (Go.Iv.ile (0 : Int) t3) then
        Option.bind (t0[(Int.toNat t3)]?) fun x9 =>
        bif (Nat.ble (UInt8.toNat (48 : UInt8)) (UInt8.toNat x9)) then
          bif (Go.Iv.ile (0 : Int) t3) then
          Option.bind (t0[(Int.toNat t3)]?) fun x10 =>
          some (Nat.ble (UInt8.toNat x10) (UInt8.toNat (57 : UInt8)))
          else none
        else
        some Bool.false
        else none
      else
      some Bool.false) fun b11 =>
    bif b11 then
      L21_2 n t0 (Go.IntKind.wrap Go.IntKind.i64 (t3 + (1 : Int)))
    else
    some ((t3, ()), ())
noncomputable def L21_2_it : LoopIt := ⟨21, 2, none, L21_2_T, [(.exit 0, L21_2_Xexit0)], 0, fun n x => L21_2 n x.1.1 x.1.2.1⟩
theorem L21_2_Xexit0_ok : L21_2_Xexit0.ok Go.Proofs.Tryd.prog hint := by
  intro p hp
  cases hp
theorem L21_2_T_ok : L21_2_T.ok Go.Proofs.Tryd.prog hint := by
  intro p hp
  cases hp
theorem L21_2_ok : ∀ n, LoopOK Go.Proofs.Tryd.prog hint shT L21_2_it n :=
  LoopOK.of (hk := fun β => (Known.mk [] []).hk β) (sh := shT) (OneLoop.of (by kernel_rfl)) L21_2_T_ok ⟨⟨L21_2_Xexit0_ok, Nat.le_refl _, Nat.le_refl _⟩, trivial⟩ (fun m => KnownOK.hook KnownOK.nil m)
    (fun _ => by kernel_rfl) (fun m x => by kernel_rfl)

noncomputable def count (n : Nat) (s : List UInt8) : Option (Int × Unit) :=
  Option.bind (L21_2 (n + 1) s (0 : Int)) fun y12 =>
  some (y12.1.1, ())
noncomputable def count_it : FnIt := ⟨21, [(false, .str)], [(false, (.int .i64))], 1, fun n x => count n x.1⟩
theorem count_ok (n : Nat) : FnOK Go.Proofs.Tryd.prog hint shT count_it n :=
  FnOK.of (hk := fun β => (Known.mk [] [L21_2_it]).hk β) (sh := shT) (fun m _ => KnownOK.hook (KnownOK.nil.loop L21_2_ok L21_2_T_ok) m) (fun x => by kernel_rfl)

noncomputable def hasPrefixL (_n : Nat) (s : List UInt8) (x : List UInt8) : Option (Bool × Unit) :=
  bif (Go.Iv.ile (len x) (len s)) then
    bif (Go.Iv.ile (len x) (len s)) then
    some (((List.take ((Int.toNat (len x)) - 0) (List.drop 0 s)) == x), ())
    else none
  else
  some (Bool.false, ())
noncomputable def hasPrefixL_it : FnIt := ⟨34, [(false, .str), (false, .str)], [(false, .bool)], 0, fun n x => hasPrefixL n x.1 x.2.1⟩
theorem hasPrefixL_ok (n : Nat) : FnOK Go.Proofs.Tryd.prog hint shT hasPrefixL_it n :=
  FnOK.of (hk := fun β => (Known.mk [] []).hk β) (sh := shT) (fun m _ => KnownOK.hook KnownOK.nil m) (fun x => by kernel_rfl)

noncomputable def hasPrefix (n : Nat) (s : List UInt8) (x : List UInt8) : Option (Bool × Unit) :=
  Option.bind (hasPrefixL n s x) fun y0 =>
  some (y0.1, ())
noncomputable def hasPrefix_it : FnIt := ⟨22, [(false, .str), (false, .str)], [(false, .bool)], 1, fun n x => hasPrefix n x.1 x.2.1⟩
theorem hasPrefix_ok (n : Nat) : FnOK Go.Proofs.Tryd.prog hint shT hasPrefix_it n :=
  FnOK.of (hk := fun β => (Known.mk [hasPrefixL_it] []).hk β) (sh := shT) (fun m _ => KnownOK.hook (KnownOK.nil.fn hasPrefixL_ok) m) (fun x => by kernel_rfl)

noncomputable def trimPrefix (n : Nat) (s : List UInt8) (x : List UInt8) : Option ((List UInt8) × Unit) :=
  Option.bind (hasPrefixL n s x) fun y0 =>
  bif y0.1 then
    bif (Go.Iv.ile (len x) (len s)) then
    some ((List.take ((List.length s) - (Int.toNat (len x))) (List.drop (Int.toNat (len x)) s)), ())
    else none
  else
  some (s, ())
noncomputable def trimPrefix_it : FnIt := ⟨33, [(false, .str), (false, .str)], [(false, .str)], 2, fun n x => trimPrefix n x.1 x.2.1⟩
theorem trimPrefix_ok (n : Nat) : FnOK Go.Proofs.Tryd.prog hint shT trimPrefix_it n :=
  FnOK.of (hk := fun β => (Known.mk [hasPrefixL_it] []).hk β) (sh := shT) (fun m _ => KnownOK.hook (KnownOK.nil.fn hasPrefixL_ok) m) (fun x => by kernel_rfl)

noncomputable def cutPrefix (n : Nat) (s : List UInt8) (x : List UInt8) : Option ((List UInt8) × (Bool × Unit)) :=
  Option.bind (hasPrefixL n s x) fun y0 =>
  bif (!y0.1) then
    some (s, Bool.false, ())
  else
  bif (Go.Iv.ile (len x) (len s)) then
  some ((List.take ((List.length s) - (Int.toNat (len x))) (List.drop (Int.toNat (len x)) s)), Bool.true, ())
  else none
noncomputable def cutPrefix_it : FnIt := ⟨26, [(false, .str), (false, .str)], [(false, .str), (false, .bool)], 2, fun n x => cutPrefix n x.1 x.2.1⟩
theorem cutPrefix_ok (n : Nat) : FnOK Go.Proofs.Tryd.prog hint shT cutPrefix_it n :=
  FnOK.of (hk := fun β => (Known.mk [hasPrefixL_it] []).hk β) (sh := shT) (fun m _ => KnownOK.hook (KnownOK.nil.fn hasPrefixL_ok) m) (fun x => by kernel_rfl)

noncomputable def signed (n : Nat) (s : List UInt8) : Option ((List UInt8) × (Bool × Unit)) :=
  Option.bind (hasPrefix (n + 1) s ([(45 : UInt8)] : List UInt8)) fun y0 =>
  bif y0.1 then
    bif (Go.Iv.ile (1 : Int) (len s)) then
    some ((List.take ((List.length s) - 1) (List.drop 1 s)), Bool.true, ())
    else none
  else
  Option.bind (trimPrefix n s ([(43 : UInt8)] : List UInt8)) fun y1 =>
  some (y1.1, Bool.false, ())
noncomputable def signed_it : FnIt := ⟨20, [(false, .str)], [(false, .str), (false, .bool)], 3, fun n x => signed n x.1⟩
theorem signed_ok (n : Nat) : FnOK Go.Proofs.Tryd.prog hint shT signed_it n :=
  FnOK.of (hk := fun β => (Known.mk [trimPrefix_it, hasPrefix_it] []).hk β) (sh := shT) (fun m _ => KnownOK.hook ((KnownOK.nil.fn hasPrefix_ok).fn trimPrefix_ok) m) (fun x => by kernel_rfl)

noncomputable def L50_1_Xexit0 : Tm := ⟨[(0, .one (.str))], [], 64, 64, 1000⟩
noncomputable def L50_1_T : Tm := ⟨[(0, .one (.str)), (1, .one (.byte))], [], 64, 64, 1000⟩
noncomputable def L50_1 : Nat → (List UInt8) → UInt8 → Option (((List UInt8) × Unit) × Unit)
  | 0, _, _ => none
  | n + 1, t0, t1 =>
    Option.bind (bif (Go.Iv.ilt (0 : Int) (len t0)) then
        Option.bind (t0[0]?) fun x7 =>
        some (x7 == t1)
      else
      some Bool.false) fun b8 =>
    bif b8 then
      bif (Go.Iv.ile (1 : Int) (len t0)) then
      L50_1 n (List.take ((List.length t0) - 1) (List.drop 1 t0)) t1
      else none
    else
    some ((t0, ()), ())
noncomputable def L50_1_it : LoopIt := ⟨50, 1, none, L50_1_T, [(.exit 0, L50_1_Xexit0)], 0, fun n x => L50_1 n x.1.1 x.1.2.1⟩
theorem L50_1_Xexit0_ok : L50_1_Xexit0.ok Go.Proofs.Tryd.prog hint := by
  intro p hp
  cases hp
theorem L50_1_T_ok : L50_1_T.ok Go.Proofs.Tryd.prog hint := by
  intro p hp
  cases hp
theorem L50_1_ok : ∀ n, LoopOK Go.Proofs.Tryd.prog hint shT L50_1_it n :=
  LoopOK.of (hk := fun β => (Known.mk [] []).hk β) (sh := shT) (OneLoop.of (by kernel_rfl)) L50_1_T_ok ⟨⟨L50_1_Xexit0_ok, Nat.le_refl _, Nat.le_refl _⟩, trivial⟩ (fun m => KnownOK.hook KnownOK.nil m)
    (fun _ => by kernel_rfl) (fun m x => by kernel_rfl)

noncomputable def trimLeftByte (n : Nat) (s : List UInt8) (c : UInt8) : Option ((List UInt8) × Unit) :=
  Option.bind (L50_1 (n + 1) s c) fun y9 =>
  some (y9.1.1, ())
noncomputable def trimLeftByte_it : FnIt := ⟨50, [(false, .str), (false, .byte)], [(false, .str)], 1, fun n x => trimLeftByte n x.1 x.2.1⟩
theorem trimLeftByte_ok (n : Nat) : FnOK Go.Proofs.Tryd.prog hint shT trimLeftByte_it n :=
  FnOK.of (hk := fun β => (Known.mk [] [L50_1_it]).hk β) (sh := shT) (fun m _ => KnownOK.hook (KnownOK.nil.loop L50_1_ok L50_1_T_ok) m) (fun x => by kernel_rfl)

noncomputable def L54_1_Xexit0 : Tm := ⟨[(0, .one (.str))], [], 64, 64, 1000⟩
noncomputable def L54_1_T : Tm := ⟨[(0, .one (.str)), (1, .one (.byte))], [], 64, 64, 1000⟩
noncomputable def L54_1 : Nat → (List UInt8) → UInt8 → Option (((List UInt8) × Unit) × Unit)
  | 0, _, _ => none
  | n + 1, t0, t1 =>
    Option.bind (bif (Go.Iv.ilt (0 : Int) (len t0)) then
        bif (Go.Iv.ile (0 : Int) (Go.IntKind.wrap Go.IntKind.i64 ((len t0) - (1 : Int)))) then
        Option.bind (t0[(Int.toNat (Go.IntKind.wrap Go.IntKind.i64 ((len t0) - (1 : Int))))]?) fun x7 =>
        some (x7 == t1)
        else none
      else
      some Bool.false) fun b8 =>
    bif b8 then
      bif ((Go.Iv.ile (0 : Int) (Go.IntKind.wrap Go.IntKind.i64 ((len t0) - (1 : Int)))) && (Go.Iv.ile (Go.IntKind.wrap Go.IntKind.i64 ((len t0) - (1 : Int))) (len t0))) then
      L54_1 n (List.take ((Int.toNat (Go.IntKind.wrap Go.IntKind.i64 ((len t0) - (1 : Int)))) - 0) (List.drop 0 t0)) t1
      else none
    else
    some ((t0, ()), ())
noncomputable def L54_1_it : LoopIt := ⟨54, 1, none, L54_1_T, [(.exit 0, L54_1_Xexit0)], 0, fun n x => L54_1 n x.1.1 x.1.2.1⟩
theorem L54_1_Xexit0_ok : L54_1_Xexit0.ok Go.Proofs.Tryd.prog hint := by
  intro p hp
  cases hp
theorem L54_1_T_ok : L54_1_T.ok Go.Proofs.Tryd.prog hint := by
  intro p hp
  cases hp
theorem L54_1_ok : ∀ n, LoopOK Go.Proofs.Tryd.prog hint shT L54_1_it n :=
  LoopOK.of (hk := fun β => (Known.mk [] []).hk β) (sh := shT) (OneLoop.of (by kernel_rfl)) L54_1_T_ok ⟨⟨L54_1_Xexit0_ok, Nat.le_refl _, Nat.le_refl _⟩, trivial⟩ (fun m => KnownOK.hook KnownOK.nil m)
    (fun _ => by kernel_rfl) (fun m x => by kernel_rfl)

noncomputable def trimRightByte (n : Nat) (s : List UInt8) (c : UInt8) : Option ((List UInt8) × Unit) :=
  Option.bind (L54_1 (n + 1) s c) fun y9 =>
  some (y9.1.1, ())
noncomputable def trimRightByte_it : FnIt := ⟨54, [(false, .str), (false, .byte)], [(false, .str)], 1, fun n x => trimRightByte n x.1 x.2.1⟩
theorem trimRightByte_ok (n : Nat) : FnOK Go.Proofs.Tryd.prog hint shT trimRightByte_it n :=
  FnOK.of (hk := fun β => (Known.mk [] [L54_1_it]).hk β) (sh := shT) (fun m _ => KnownOK.hook (KnownOK.nil.loop L54_1_ok L54_1_T_ok) m) (fun x => by kernel_rfl)

noncomputable def whole (n : Nat) (below : Bool) (d : List UInt8) (exp : Int) : Option ((Bool × (List UInt8 × (Int × Int))) × Unit) :=
  Option.bind (bif (d == ([] : List UInt8)) then
      some Bool.true
    else
    some Bool.false) fun b1 =>
  bif b1 then
    Option.bind (bif (d == ([] : List UInt8)) then
        some Bool.true
      else
      some Bool.false) fun b3 =>
    bif b3 then
      bif (d == ([] : List UInt8)) then
        some ((below, (([(48 : UInt8)] : List UInt8), ((0 : Int), (0 : Int)))), ())
      else
      some ((below, (d, ((Go.IntKind.wrap Go.IntKind.i64 ((Go.IntKind.wrap Go.IntKind.i64 (exp + (len d))) - (len d))), (0 : Int)))), ())
    else
    Option.bind (trimRightByte n d (48 : UInt8)) fun y5 =>
    bif (y5.1 == ([] : List UInt8)) then
      some ((below, (([(48 : UInt8)] : List UInt8), ((0 : Int), (0 : Int)))), ())
    else
    some ((below, (y5.1, ((Go.IntKind.wrap Go.IntKind.i64 ((Go.IntKind.wrap Go.IntKind.i64 (exp + (len d))) - (len y5.1))), (0 : Int)))), ())
  else
  Option.bind (trimLeftByte n d (48 : UInt8)) fun y7 =>
  Option.bind (bif (y7.1 == ([] : List UInt8)) then
      some Bool.true
    else
    some Bool.false) fun b9 =>
  bif b9 then
    bif (y7.1 == ([] : List UInt8)) then
      some ((below, (([(48 : UInt8)] : List UInt8), ((0 : Int), (0 : Int)))), ())
    else
    some ((below, (y7.1, ((Go.IntKind.wrap Go.IntKind.i64 ((Go.IntKind.wrap Go.IntKind.i64 (exp + (len y7.1))) - (len y7.1))), (0 : Int)))), ())
  else
  Option.bind (trimRightByte n y7.1 (48 : UInt8)) fun y11 =>
  bif (y11.1 == ([] : List UInt8)) then
    some ((below, (([(48 : UInt8)] : List UInt8), ((0 : Int), (0 : Int)))), ())
  else
  some ((below, (y11.1, ((Go.IntKind.wrap Go.IntKind.i64 ((Go.IntKind.wrap Go.IntKind.i64 (exp + (len y7.1))) - (len y11.1))), (0 : Int)))), ())
noncomputable def whole_it : FnIt := ⟨24, [(false, .bool), (false, .str), (false, (.int .i64))], [(true, (.cons .bool (.cons .str (.cons (.int .i64) (.int .i64)))))], 3, fun n x => whole n x.1 x.2.1 x.2.2.1⟩
theorem whole_ok (n : Nat) : FnOK Go.Proofs.Tryd.prog hint shT whole_it n :=
  FnOK.of (hk := fun β => (Known.mk [trimLeftByte_it, trimRightByte_it] []).hk β) (sh := shT) (fun m _ => KnownOK.hook ((KnownOK.nil.fn trimRightByte_ok).fn trimLeftByte_ok) m) (fun x => by kernel_rfl)

noncomputable def hex (_n : Nat) (c : Int) : Option (Int × Unit) :=
  Option.bind (bif (Go.Iv.ile (48 : Int) c) then
      some (Go.Iv.ile c (57 : Int))
    else
    some Bool.false) fun b1 =>
  bif b1 then
    some ((Go.IntKind.wrap Go.IntKind.i64 (c - (48 : Int))), ())
  else
  Option.bind (bif (Go.Iv.ile (97 : Int) c) then
      some (Go.Iv.ile c (102 : Int))
    else
    some Bool.false) fun b3 =>
  bif b3 then
    some ((Go.IntKind.wrap Go.IntKind.i64 ((Go.IntKind.wrap Go.IntKind.i64 (c - (97 : Int))) + (10 : Int))), ())
  else
  Option.bind (bif (Go.Iv.ile (65 : Int) c) then
      some (Go.Iv.ile c (70 : Int))
    else
    some Bool.false) fun b5 =>
  bif b5 then
    some ((Go.IntKind.wrap Go.IntKind.i64 ((Go.IntKind.wrap Go.IntKind.i64 (c - (65 : Int))) + (10 : Int))), ())
  else
  some ((-(1 : Int)), ())
noncomputable def hex_it : FnIt := ⟨40, [(false, (.int .i64))], [(false, (.int .i64))], 1, fun n x => hex n x.1⟩
theorem hex_ok (n : Nat) : FnOK Go.Proofs.Tryd.prog hint shT hex_it n :=
  FnOK.of (hk := fun β => (Known.mk [] []).hk β) (sh := shT) (fun m _ => KnownOK.hook KnownOK.nil m) (fun x => by kernel_rfl)

noncomputable def L41_3_Xexit0 : Tm := ⟨[(7, .one (.all 64 3 (.int .i64) true))], [], 64, 65, 1000⟩
noncomputable def L41_3_T : Tm := ⟨[(0, .one (.lst (.int .i64))), (1, .one (.int .i64)), (2, .one (.int .i64)), (7, .one (.all 64 3 (.int .i64) true)), (8, .one (.int .i64))], [], 64, 65, 1000⟩
noncomputable def L41_3 : Nat → (List Int) → Int → Int → (List Int) → Int → Option (((List Int) × Unit) × Unit)
  | 0, _, _, _, _, _ => none
  | n + 1, t0, t1, t2, t7, t8 =>
    Option.bind (bif (Go.Iv.ilt t8 (len t0)) then
        some Bool.true
      else
      some (Go.Iv.ilt (0 : Int) t2)) fun b10 =>
    bif b10 then
      bif (Go.Iv.ilt t8 (len t0)) then
        bif (Go.Iv.ile (0 : Int) t8) then
        Option.bind (t0[(Int.toNat t8)]?) fun x11 =>
        bif (room (((List.length t7) + (List.length ((Int.tmod (Go.IntKind.wrap Go.IntKind.i64 (t2 + (Go.IntKind.wrap Go.IntKind.i64 (x11 * t1)))) (10 : Int)) :: ([] : List Int)))) * 9)) then
        L41_3 n t0 t1 (Go.IntKind.wrap Go.IntKind.i64 (Int.tdiv (Go.IntKind.wrap Go.IntKind.i64 (t2 + (Go.IntKind.wrap Go.IntKind.i64 (x11 * t1)))) (10 : Int))) (t7 ++ ((Int.tmod (Go.IntKind.wrap Go.IntKind.i64 (t2 + (Go.IntKind.wrap Go.IntKind.i64 (x11 * t1)))) (10 : Int)) :: ([] : List Int))) (Go.IntKind.wrap Go.IntKind.i64 (t8 + (1 : Int)))
        else none
        else none
      else
      bif (room (((List.length t7) + (List.length ((Int.tmod (Go.IntKind.wrap Go.IntKind.i64 (t2 + (Go.IntKind.wrap Go.IntKind.i64 ((0 : Int) * t1)))) (10 : Int)) :: ([] : List Int)))) * 9)) then
      L41_3 n t0 t1 (Go.IntKind.wrap Go.IntKind.i64 (Int.tdiv (Go.IntKind.wrap Go.IntKind.i64 (t2 + (Go.IntKind.wrap Go.IntKind.i64 ((0 : Int) * t1)))) (10 : Int))) (t7 ++ ((Int.tmod (Go.IntKind.wrap Go.IntKind.i64 (t2 + (Go.IntKind.wrap Go.IntKind.i64 ((0 : Int) * t1)))) (10 : Int)) :: ([] : List Int))) (Go.IntKind.wrap Go.IntKind.i64 (t8 + (1 : Int)))
      else none
    else
    some ((t7, ()), ())
noncomputable def L41_3_it : LoopIt := ⟨41, 3, none, L41_3_T, [(.exit 0, L41_3_Xexit0)], 1, fun n x => L41_3 n x.1.1 x.1.2.1 x.1.2.2.1 x.1.2.2.2.1 x.1.2.2.2.2.1⟩
theorem L41_3_Xexit0_ok : L41_3_Xexit0.ok Go.Proofs.Tryd.prog hint := by
  intro p hp
  cases hp
theorem L41_3_T_ok : L41_3_T.ok Go.Proofs.Tryd.prog hint := by
  intro p hp
  cases hp
theorem L41_3_ok : ∀ n, LoopOK Go.Proofs.Tryd.prog hint shT L41_3_it n :=
  LoopOK.of (hk := fun β => (Known.mk [] []).hk β) (sh := shT) (OneLoop.of (by kernel_rfl)) L41_3_T_ok ⟨⟨L41_3_Xexit0_ok, Nat.le_refl _, Nat.le_refl _⟩, trivial⟩ (fun m => KnownOK.hook KnownOK.nil m)
    (fun _ => by kernel_rfl) (fun m x => by kernel_rfl)

noncomputable def times (n : Nat) (l : List Int) (k : Int) (more : Int) : Option ((List Int) × Unit) :=
  Option.bind (L41_3 n l k more ([] : List Int) (0 : Int)) fun y12 =>
  some (y12.1.1, ())
noncomputable def times_it : FnIt := ⟨41, [(false, (.slc (.int .i64))), (false, (.int .i64)), (false, (.int .i64))], [(false, (.slc (.int .i64)))], 1, fun n x => times n x.1 x.2.1 x.2.2.1⟩
theorem times_ok (n : Nat) : FnOK Go.Proofs.Tryd.prog hint shT times_it n :=
  FnOK.of (hk := fun β => (Known.mk [] [L41_3_it]).hk β) (sh := shT) (fun m _ => KnownOK.hook (KnownOK.nil.loop L41_3_ok L41_3_T_ok) m) (fun x => by kernel_rfl)

noncomputable def L42_5_Xexit0 : Tm := ⟨[(3, .one (.all 64 3 (.int .i64) true))], [], 64, 65, 1000⟩
noncomputable def L42_5_Xret : Tm := ⟨[(2, .one (.fix (Go.Gv.TV.raw (Go.Value.slice (Option.none) 0 0))))], [], 64, 64, 1000⟩
noncomputable def L42_5_T : Tm := ⟨[(0, .one (.str)), (3, .one (.all 64 3 (.int .i64) true)), (4, .one (.int .i64))], [], 64, 65, 1000⟩
noncomputable def L42_5 : Nat → (List UInt8) → (List Int) → Int → Option ((((List Int) × Unit) × Unit) ⊕ ((Unit × Unit) × Unit))
  | 0, _, _, _ => none
  | n + 1, t0, t3, t4 =>
    bif (Go.Iv.ile (0 : Int) t4) then
      bif (Go.Iv.ile (0 : Int) t4) then
      Option.bind (t0[(Int.toNat t4)]?) fun x9 =>
      Option.bind (bif (Go.Iv.ilt (Go.IntKind.wrap Go.IntKind.i64 ((Go.IntKind.wrap Go.IntKind.i64 (ub x9)) - (48 : Int))) (0 : Int)) then
          some Bool.true
        else
        some (Go.Iv.ile (10 : Int) (Go.IntKind.wrap Go.IntKind.i64 ((Go.IntKind.wrap Go.IntKind.i64 (ub x9)) - (48 : Int))))) fun b11 =>
      bif b11 then
        some (.inr (((), ()), ()))
      else
      bif (room (((List.length t3) + (List.length ((Go.IntKind.wrap Go.IntKind.i64 ((Go.IntKind.wrap Go.IntKind.i64 (ub x9)) - (48 : Int))) :: ([] : List Int)))) * 9)) then
      L42_5 n t0 (t3 ++ ((Go.IntKind.wrap Go.IntKind.i64 ((Go.IntKind.wrap Go.IntKind.i64 (ub x9)) - (48 : Int))) :: ([] : List Int))) (Go.IntKind.wrap Go.IntKind.i64 (t4 - (1 : Int)))
      else none
      else none
    else
    some (.inl ((t3, ()), ()))
noncomputable def L42_5_it : LoopIt := ⟨42, 5, none, L42_5_T, [(.exit 0, L42_5_Xexit0), (.ret, L42_5_Xret)], 0, fun n x => L42_5 n x.1.1 x.1.2.1 x.1.2.2.1⟩
theorem L42_5_Xexit0_ok : L42_5_Xexit0.ok Go.Proofs.Tryd.prog hint := by
  intro p hp
  cases hp
theorem L42_5_Xret_ok : L42_5_Xret.ok Go.Proofs.Tryd.prog hint := by
  intro p hp
  cases hp
theorem L42_5_T_ok : L42_5_T.ok Go.Proofs.Tryd.prog hint := by
  intro p hp
  cases hp
theorem L42_5_ok : ∀ n, LoopOK Go.Proofs.Tryd.prog hint shT L42_5_it n :=
  LoopOK.of (hk := fun β => (Known.mk [] []).hk β) (sh := shT) (OneLoop.of (by kernel_rfl)) L42_5_T_ok ⟨⟨L42_5_Xexit0_ok, Nat.le_refl _, Nat.le_refl _⟩, ⟨L42_5_Xret_ok, Nat.le_refl _, Nat.le_refl _⟩, trivial⟩ (fun m => KnownOK.hook KnownOK.nil m)
    (fun _ => by kernel_rfl) (fun m x => by kernel_rfl)

noncomputable def of (n : Nat) (s : List UInt8) : Option ((List Int) × Unit) :=
  bif (Go.Iv.ilt (5000 : Int) (len s)) then
    some (([] : List Int), ())
  else
  Option.bind (L42_5 (n + 1) s ([] : List Int) (Go.IntKind.wrap Go.IntKind.i64 ((len s) - (1 : Int)))) fun y12 =>
  match y12 with
    | .inl y13 =>
      some (y13.1.1, ())
    | .inr _ =>
      some (([] : List Int), ())
noncomputable def of_it : FnIt := ⟨42, [(false, .str)], [(false, (.slc (.int .i64)))], 1, fun n x => of n x.1⟩
theorem of_ok (n : Nat) : FnOK Go.Proofs.Tryd.prog hint shT of_it n :=
  FnOK.of (hk := fun β => (Known.mk [] [L42_5_it]).hk β) (sh := shT) (fun m _ => KnownOK.hook (KnownOK.nil.loop L42_5_ok L42_5_T_ok) m) (fun x => by kernel_rfl)

noncomputable def L43_3_Xexit0 : Tm := ⟨[(3, .one (.fix (Go.Gv.TV.ptr 64 0)))], [(64, .cells 73 [.fix (Go.Gv.TV.ptr 64 0), .all 67 5 .byte true] true)], 67, 68, 1005⟩
noncomputable def L43_3_T : Tm := ⟨[(0, .one (.lst (.int .i64))), (3, .one (.fix (Go.Gv.TV.ptr 64 0))), (4, .one (.int .i64))], [(64, .cells 73 [.fix (Go.Gv.TV.ptr 64 0), .all 67 5 .byte true] true)], 67, 68, 1005⟩
noncomputable def L43_3 : Nat → (List Int) → Int → (List UInt8) → Option ((Unit × Unit) × ((Unit × ((List UInt8) × Unit)) × Unit))
  | 0, _, _, _ => none
  | n + 1, t0, t4, c64_1 =>
    bif (Go.Iv.ile (0 : Int) t4) then
      bif (Go.Iv.ile (0 : Int) t4) then
      Option.bind (t0[(Int.toNat t4)]?) fun x3 =>
      bif (room (((List.length c64_1) + (List.length ((UInt8.ofNat (Int.toNat (Go.IntKind.wrap Go.IntKind.u8 (Go.IntKind.wrap Go.IntKind.i64 ((48 : Int) + x3))))) :: ([] : List UInt8)))) * 2)) then
      L43_3 n t0 (Go.IntKind.wrap Go.IntKind.i64 (t4 - (1 : Int))) (c64_1 ++ ((UInt8.ofNat (Int.toNat (Go.IntKind.wrap Go.IntKind.u8 (Go.IntKind.wrap Go.IntKind.i64 ((48 : Int) + x3))))) :: ([] : List UInt8)))
      else none
      else none
    else
    some (((), ()), (((), (c64_1, ())), ()))
noncomputable def L43_3_it : LoopIt := ⟨43, 3, none, L43_3_T, [(.exit 0, L43_3_Xexit0)], 2, fun n x => L43_3 n x.1.1 x.1.2.2.1 x.2.1.2.1⟩
theorem L43_3_Xexit0_ok : L43_3_Xexit0.ok Go.Proofs.Tryd.prog hint := by
  intro p hp
  simp only [L43_3_Xexit0, List.mem_cons, List.not_mem_nil, or_false] at hp
  rcases hp with rfl
  · trivial
theorem L43_3_T_ok : L43_3_T.ok Go.Proofs.Tryd.prog hint := by
  intro p hp
  simp only [L43_3_T, List.mem_cons, List.not_mem_nil, or_false] at hp
  rcases hp with rfl
  · trivial
theorem L43_3_ok : ∀ n, LoopOK Go.Proofs.Tryd.prog hint shT L43_3_it n :=
  LoopOK.of (hk := fun β => (Known.mk [] []).hk β) (sh := shT) (OneLoop.of (by kernel_rfl)) L43_3_T_ok ⟨⟨L43_3_Xexit0_ok, Nat.le_refl _, Nat.le_refl _⟩, trivial⟩ (fun m => KnownOK.hook KnownOK.nil m)
    (fun _ => by kernel_rfl) (fun m x => by kernel_rfl)

noncomputable def text (n : Nat) (l : List Int) : Option ((List UInt8) × Unit) :=
  bif (Go.Iv.ile (0 : Int) (Go.IntKind.wrap Go.IntKind.i64 ((len l) - (1 : Int)))) then
    bif (Go.Iv.ile (0 : Int) (Go.IntKind.wrap Go.IntKind.i64 ((len l) - (1 : Int)))) then
    Option.bind (l[(Int.toNat (Go.IntKind.wrap Go.IntKind.i64 ((len l) - (1 : Int))))]?) fun x0 =>
    Option.bind (L43_3 n l (Go.IntKind.wrap Go.IntKind.i64 ((Go.IntKind.wrap Go.IntKind.i64 ((len l) - (1 : Int))) - (1 : Int))) ((UInt8.ofNat (Int.toNat (Go.IntKind.wrap Go.IntKind.u8 (Go.IntKind.wrap Go.IntKind.i64 ((48 : Int) + x0))))) :: ([] : List UInt8))) fun y4 =>
    bif (List.isEmpty y4.2.1.2.1) then
      bif ((len y4.2.1.2.1) == (0 : Int)) then
      some (([(48 : UInt8)] : List UInt8), ())
      else none
    else
    bif ((Go.Iv.ile (len y4.2.1.2.1) (len y4.2.1.2.1)) && (Go.Iv.ile (len y4.2.1.2.1) (1099511627776 : Int))) then
    Option.bind (bif ((List.take (Int.toNat (len y4.2.1.2.1)) y4.2.1.2.1) == ([] : List UInt8)) then
        some Bool.true
      else
      some Bool.false) fun b7 =>
    bif b7 then
      bif (!((List.take (Int.toNat (len y4.2.1.2.1)) y4.2.1.2.1) == ([] : List UInt8))) then
        some ((List.take (Int.toNat (len y4.2.1.2.1)) y4.2.1.2.1), ())
      else
      some (([(48 : UInt8)] : List UInt8), ())
    else
    Option.bind (trimLeftByte n (List.take (Int.toNat (len y4.2.1.2.1)) y4.2.1.2.1) (48 : UInt8)) fun y9 =>
    bif (!(y9.1 == ([] : List UInt8))) then
      some (y9.1, ())
    else
    some (([(48 : UInt8)] : List UInt8), ())
    else none
    else none
  else
  some (([(48 : UInt8)] : List UInt8), ())
noncomputable def text_it : FnIt := ⟨43, [(false, (.slc (.int .i64)))], [(false, .str)], 3, fun n x => text n x.1⟩
theorem text_ok (n : Nat) : FnOK Go.Proofs.Tryd.prog hint shT text_it n :=
  FnOK.of (hk := fun β => (Known.mk [trimLeftByte_it] [L43_3_it]).hk β) (sh := shT) (fun m _ => KnownOK.hook ((KnownOK.nil.loop L43_3_ok L43_3_T_ok).fn trimLeftByte_ok) m) (fun x => by kernel_rfl)

noncomputable def L27_5_Xexit0 : Tm := ⟨[(0, .one (.str)), (1, .one (.int .i64)), (6, .one (.lst (.int .i64)))], [], 64, 64, 1000⟩
noncomputable def L27_5_Xret : Tm := ⟨[(4, .one (.str)), (5, .one (.bool))], [], 64, 64, 1000⟩
noncomputable def L27_5_T : Tm := ⟨[(0, .one (.str)), (1, .one (.int .i64)), (6, .one (.lst (.int .i64))), (30, .one (.lst .byte)), (31, .one (.int .i64)), (32, .one (.int .i64))], [], 64, 64, 1000⟩
noncomputable def L27_5 : Nat → (List UInt8) → Int → (List Int) → (List UInt8) → Int → Int → Option ((((List UInt8) × (Int × ((List Int) × Unit))) × Unit) ⊕ (((List UInt8) × (Bool × Unit)) × Unit))
  | 0, _, _, _, _, _, _ => none
  | n + 1, t0, t1, t6, t30, t31, t32 =>
    bif (Go.Iv.ilt t32 t31) then
      bif (Go.Iv.ile (0 : Int) t32) then
      Option.bind (t30[(Int.toNat t32)]?) fun x17 =>
      Option.bind (hex (n + 1) (Go.IntKind.wrap Go.IntKind.i64 (ub x17))) fun y18 =>
      Option.bind (bif (Go.Iv.ilt y18.1 (0 : Int)) then
          some Bool.true
        else
        some (Go.Iv.ile t1 y18.1)) fun b20 =>
      bif b20 then
        some (.inr ((([] : List UInt8), (Bool.false, ())), ()))
      else
      bif (t1 != (10 : Int)) then
        Option.bind (times (n + 1) t6 t1 y18.1) fun y21 =>
        L27_5 n t0 t1 y21.1 t30 t31 (Go.IntKind.wrap Go.IntKind.i64 (t32 + (1 : Int)))
      else
      L27_5 n t0 t1 t6 t30 t31 (Go.IntKind.wrap Go.IntKind.i64 (t32 + (1 : Int)))
      else none
    else
    some (.inl ((t0, (t1, (t6, ()))), ()))
noncomputable def L27_5_it : LoopIt := ⟨27, 5, none, L27_5_T, [(.exit 0, L27_5_Xexit0), (.ret, L27_5_Xret)], 2, fun n x => L27_5 n x.1.1 x.1.2.1 x.1.2.2.1 x.1.2.2.2.1 x.1.2.2.2.2.1 x.1.2.2.2.2.2.1⟩
theorem L27_5_Xexit0_ok : L27_5_Xexit0.ok Go.Proofs.Tryd.prog hint := by
  intro p hp
  cases hp
theorem L27_5_Xret_ok : L27_5_Xret.ok Go.Proofs.Tryd.prog hint := by
  intro p hp
  cases hp
theorem L27_5_T_ok : L27_5_T.ok Go.Proofs.Tryd.prog hint := by
  intro p hp
  cases hp
theorem L27_5_ok : ∀ n, LoopOK Go.Proofs.Tryd.prog hint shT L27_5_it n :=
  LoopOK.of (hk := fun β => (Known.mk [times_it, hex_it] []).hk β) (sh := shT) (OneLoop.of (by kernel_rfl)) L27_5_T_ok ⟨⟨L27_5_Xexit0_ok, Nat.le_refl _, Nat.le_refl _⟩, ⟨L27_5_Xret_ok, Nat.le_refl _, Nat.le_refl _⟩, trivial⟩ (fun m => KnownOK.hook ((KnownOK.nil.fn hex_ok).fn times_ok) m)
    (fun _ => by kernel_rfl) (fun m x => by kernel_rfl)

noncomputable def plain (n : Nat) (s : List UInt8) (base : Int) : Option ((List UInt8) × (Bool × Unit)) :=
  Option.bind (bif (s == ([] : List UInt8)) then
      some Bool.true
    else
    bif (Go.Iv.ilt (5000 : Int) (len s)) then
      some Bool.true
    else
    bif (base != (8 : Int)) then
      bif (base != (10 : Int)) then
        some (base != (16 : Int))
      else
      some Bool.false
    else
    some Bool.false) fun b1 =>
  bif b1 then
    some (([] : List UInt8), Bool.false, ())
  else
  Option.bind (L27_5 (n + 2) s base ([] : List Int) s (len s) (0 : Int)) fun y22 =>
  match y22 with
    | .inl y23 =>
      bif (y23.1.2.1 == (10 : Int)) then
        Option.bind (of (n + 2) y23.1.1) fun y25 =>
        Option.bind (text n y25.1) fun y26 =>
        some (y26.1, Bool.true, ())
      else
      Option.bind (text n y23.1.2.2.1) fun y27 =>
      some (y27.1, Bool.true, ())
    | .inr y24 =>
      some (y24.1.1, y24.1.2.1, ())
noncomputable def plain_it : FnIt := ⟨27, [(false, .str), (false, (.int .i64))], [(false, .str), (false, .bool)], 4, fun n x => plain n x.1 x.2.1⟩
theorem plain_ok (n : Nat) : FnOK Go.Proofs.Tryd.prog hint shT plain_it n :=
  FnOK.of (hk := fun β => (Known.mk [text_it, of_it] [L27_5_it]).hk β) (sh := shT) (fun m _ => KnownOK.hook (((KnownOK.nil.loop L27_5_ok L27_5_T_ok).fn of_ok).fn text_ok) m) (fun x => by kernel_rfl)

noncomputable def int (n : Nat) (s : List UInt8) : Option ((Bool × (List UInt8 × (Int × Int))) × (Bool × Unit)) :=
  Option.bind (cutPrefix (n + 2) s ([(48 : UInt8), (111 : UInt8)] : List UInt8)) fun y0 =>
  bif y0.2.1 then
    Option.bind (plain n y0.1 (8 : Int)) fun y1 =>
    bif (!y1.2.1) then
      some ((Bool.false, (([] : List UInt8), ((0 : Int), (0 : Int)))), Bool.false, ())
    else
    Option.bind (whole (n + 1) Bool.false y1.1 (0 : Int)) fun y2 =>
    bif y2.1.1 then
      some (((!(y2.1.2.1 == ([(48 : UInt8)] : List UInt8))), (y2.1.2.1, (y2.1.2.2.1, y2.1.2.2.2))), Bool.true, ())
    else
    some ((Bool.false, (y2.1.2.1, (y2.1.2.2.1, y2.1.2.2.2))), Bool.true, ())
  else
  Option.bind (cutPrefix (n + 2) s ([(48 : UInt8), (120 : UInt8)] : List UInt8)) fun y3 =>
  bif y3.2.1 then
    Option.bind (plain n y3.1 (16 : Int)) fun y4 =>
    bif (!y4.2.1) then
      some ((Bool.false, (([] : List UInt8), ((0 : Int), (0 : Int)))), Bool.false, ())
    else
    Option.bind (whole (n + 1) Bool.false y4.1 (0 : Int)) fun y5 =>
    bif y5.1.1 then
      some (((!(y5.1.2.1 == ([(48 : UInt8)] : List UInt8))), (y5.1.2.1, (y5.1.2.2.1, y5.1.2.2.2))), Bool.true, ())
    else
    some ((Bool.false, (y5.1.2.1, (y5.1.2.2.1, y5.1.2.2.2))), Bool.true, ())
  else
  Option.bind (signed (n + 1) s) fun y6 =>
  Option.bind (plain n y6.1 (10 : Int)) fun y7 =>
  bif (!y7.2.1) then
    some ((Bool.false, (([] : List UInt8), ((0 : Int), (0 : Int)))), Bool.false, ())
  else
  Option.bind (whole (n + 1) y6.2.1 y7.1 (0 : Int)) fun y8 =>
  bif y8.1.1 then
    some (((!(y8.1.2.1 == ([(48 : UInt8)] : List UInt8))), (y8.1.2.1, (y8.1.2.2.1, y8.1.2.2.2))), Bool.true, ())
  else
  some ((Bool.false, (y8.1.2.1, (y8.1.2.2.1, y8.1.2.2.2))), Bool.true, ())
noncomputable def int_it : FnIt := ⟨15, [(false, .str)], [(true, (.cons .bool (.cons .str (.cons (.int .i64) (.int .i64))))), (false, .bool)], 5, fun n x => int n x.1⟩
theorem int_ok (n : Nat) : FnOK Go.Proofs.Tryd.prog hint shT int_it n :=
  FnOK.of (hk := fun β => (Known.mk [signed_it, whole_it, plain_it, cutPrefix_it] []).hk β) (sh := shT) (fun m _ => KnownOK.hook ((((KnownOK.nil.fn cutPrefix_ok).fn plain_ok).fn whole_ok).fn signed_ok) m) (fun x => by kernel_rfl)


end Go.Proofs.YtpobfjjmnemioaaDoor

/- Law 5: signs, beginnings, runs of digits, noughts left off. -/
namespace Go.Proofs.YtpobfjjmnemioaaDoor
open Go Go.Iv Go.Gv
set_option linter.unusedSimpArgs false
set_option linter.unusedVariables false

theorem take_all {α : Type} (l : List α) (k : Nat) : List.take (l.length - k) (List.drop k l) = List.drop k l := by
  rw [List.take_of_length_le]; rw [List.length_drop]; exact Nat.le_refl _
theorem roomle {n : Nat} (h : n ≤ 1000000) : room n = true := room_ok (Nat.le_trans h (by decide))

/-! ### Beginnings -/
def pre : List UInt8 → List UInt8 → Bool
  | [], _ => true
  | _ :: _, [] => false
  | a :: r, b :: s => (b == a) && pre r s
theorem pre_len : ∀ (x s : List UInt8), pre x s = true → x.length ≤ s.length
  | [], _, _ => Nat.zero_le _
  | _ :: _, [], h => by cases h
  | a :: r, b :: s, h => by
    simp only [pre, Bool.and_eq_true] at h
    have := pre_len r s h.2
    simp only [List.length_cons]; omega
theorem pre_take : ∀ (x s : List UInt8), x.length ≤ s.length → (List.take x.length s == x) = pre x s
  | [], _, _ => rfl
  | _ :: _, [], h => by simp at h
  | a :: r, b :: s, h => by
    simp only [List.length_cons] at h
    have := pre_take r s (by omega)
    simp only [List.length_cons, List.take_succ_cons, pre, ← this]
    rfl
theorem pre_short : ∀ (x s : List UInt8), s.length < x.length → pre x s = false
  | [], _, h => by simp at h
  | _ :: _, [], h => rfl
  | a :: r, b :: s, h => by
    simp only [List.length_cons] at h
    simp only [pre, pre_short r s (by omega), Bool.and_false]
theorem hasPrefixL_spec (n : Nat) (s x : List UInt8) : hasPrefixL n s x = some (pre x s, ()) := by
  unfold hasPrefixL len
  by_cases h : x.length ≤ s.length
  · simp only [ile_t (show ((x.length : Nat) : Int) ≤ (s.length : Nat) by omega), cond_true, List.drop_zero, Nat.sub_zero, Int.toNat_natCast, pre_take x s h]
  · simp only [ile_f (show ((s.length : Nat) : Int) < (x.length : Nat) by omega), cond_false, pre_short x s (by omega)]
theorem beginsR_spec (n : Nat) (s x : List UInt8) : beginsR n s x = some (pre x s, ()) := hasPrefixL_spec n s x
theorem hasPrefix_spec (n : Nat) (s x : List UInt8) : hasPrefix n s x = some (pre x s, ()) := by
  unfold hasPrefix; rw [hasPrefixL_spec]; rfl
theorem trimPrefix_spec (n : Nat) (s x : List UInt8) : trimPrefix n s x = some (bif pre x s then List.drop x.length s else s, ()) := by
  unfold trimPrefix len; rw [hasPrefixL_spec]
  cases h : pre x s with
  | false => rfl
  | true =>
    have := pre_len x s h
    simp only [Option.bind_some, cond_true, ile_t (show ((x.length : Nat) : Int) ≤ (s.length : Nat) by omega), Int.toNat_natCast, take_all]
theorem cutPrefix_spec (n : Nat) (s x : List UInt8) : cutPrefix n s x = some (bif pre x s then List.drop x.length s else s, pre x s, ()) := by
  unfold cutPrefix len; rw [hasPrefixL_spec]
  cases h : pre x s with
  | false => rfl
  | true =>
    have := pre_len x s h
    simp only [Option.bind_some, Bool.not_true, cond_false, cond_true, ile_t (show ((x.length : Nat) : Int) ≤ (s.length : Nat) by omega), Int.toNat_natCast, take_all]

/-! ### Signs -/
def sgn : List UInt8 → List UInt8 × Bool
  | [] => ([], false)
  | c :: r => bif c == 45 then (r, true) else bif c == 43 then (r, false) else (c :: r, false)
theorem pre1 (a c : UInt8) (r : List UInt8) : pre [a] (c :: r) = (c == a) := by simp only [pre, Bool.and_true]
theorem signed_spec (n : Nat) (s : List UInt8) : signed n s = some ((sgn s).1, (sgn s).2, ()) := by
  unfold signed; rw [hasPrefix_spec, trimPrefix_spec]
  cases s with
  | nil => rfl
  | cons c r =>
    simp only [Option.bind_some, pre1, sgn, take_all, ile_t (show (1 : Int) ≤ len (c :: r) by simp only [len, List.length_cons]; omega)]
    cases c == 45 <;> cases c == 43 <;> rfl
theorem signedR_spec (n : Nat) (s : List UInt8) : signedR n s = some ((sgn s).1, (sgn s).2, ()) := by
  unfold signedR; rw [beginsR_spec, beginsR_spec]
  cases s with
  | nil => rfl
  | cons c r =>
    simp only [Option.bind_some, pre1, sgn, take_all, ile_t (show (1 : Int) ≤ len (c :: r) by simp only [len, List.length_cons]; omega), List.getElem?_cons_zero]
    cases h : c == 45 <;> cases c == 43 <;> rfl
theorem sgn_len (s : List UInt8) : (sgn s).1.length ≤ s.length := by
  cases s with
  | nil => exact Nat.le_refl _
  | cons c r =>
    simp only [sgn]
    cases c == 45 <;> cases c == 43 <;> simp

/-! ### Runs of digits -/
def dig (c : UInt8) : Bool := Nat.ble 48 c.toNat && Nat.ble c.toNat 57
def run (s : List UInt8) : List UInt8 := s.takeWhile dig
theorem run_len (s : List UInt8) : (run s).length ≤ s.length := (List.takeWhile_prefix dig).length_le
theorem count_loop (s : List UInt8) : ∀ (m i n : Nat), i + m = s.length → s.length ≤ 1000000 → m + 1 ≤ n → L21_2 n s (i : Int) = some ((((i + (run (s.drop i)).length : Nat) : Int), ()), ()) := by
  intro m
  induction m with
  | zero =>
    intro i n h hs hn
    obtain ⟨n, rfl⟩ : ∃ k, n = k + 1 := ⟨n - 1, by omega⟩
    simp only [L21_2, len, ilt_f (show ((s.length : Nat) : Int) ≤ (i : Int) by omega), cond_false, Option.bind_some, List.drop_eq_nil_of_le (show s.length ≤ i by omega)]
    rfl
  | succ m ih =>
    intro i n h hs hn
    obtain ⟨n, rfl⟩ : ∃ k, n = k + 1 := ⟨n - 1, by omega⟩
    have hi : i < s.length := by omega
    have w : IntKind.wrap .i64 ((i : Int) + 1) = ((i + 1 : Nat) : Int) := by rw [wrap_id] <;> omega
    have z : Go.Iv.ile (0 : Int) (i : Int) = true := ile_t (by omega)
    rw [List.drop_eq_getElem_cons hi]
    simp only [L21_2, len, ilt_t (show (i : Int) < ((s.length : Nat) : Int) by omega), z, cond_true, Int.toNat_natCast, List.getElem?_eq_getElem hi, Option.bind_some, w]
    generalize hc : s[i] = c
    simp only [run, List.takeWhile, dig]
    have e1 : UInt8.toNat 48 = 48 := rfl
    have e2 : UInt8.toNat 57 = 57 := rfl
    rw [e1, e2]
    cases h1 : Nat.ble 48 c.toNat with
    | false => simp only [cond_false, Option.bind_some, Bool.false_and]; rfl
    | true =>
      simp only [cond_true, Option.bind_some, Bool.true_and]
      cases h2 : Nat.ble c.toNat 57 with
      | false => simp only [cond_false]; rfl
      | true =>
        simp only [cond_true]
        rw [ih (i + 1) n (by omega) hs (by omega)]
        simp only [run, List.length_cons]
        congr 4; omega
theorem count_spec (n : Nat) (s : List UInt8) (hs : s.length ≤ 1000000) (hn : s.length ≤ n) : count n s = some (((run s).length : Int), ()) := by
  unfold count
  have := count_loop s s.length 0 (n + 1) (by omega) hs (by omega)
  rw [show (0 : Int) = ((0 : Nat) : Int) from rfl, this, List.drop_zero, Nat.zero_add]
  rfl
theorem run_loop (s : List UInt8) (j : Int) : ∀ (m i n : Nat), i + m = s.length → s.length ≤ 1000000 → m + 1 ≤ n → L32_2 n s (i : Int) j = some ((s, (((i + (run (s.drop i)).length : Nat) : Int), (j, ()))), ()) := by
  intro m
  induction m with
  | zero =>
    intro i n h hs hn
    obtain ⟨n, rfl⟩ : ∃ k, n = k + 1 := ⟨n - 1, by omega⟩
    simp only [L32_2, len, ilt_f (show ((s.length : Nat) : Int) ≤ (i : Int) by omega), cond_false, Option.bind_some, List.drop_eq_nil_of_le (show s.length ≤ i by omega)]
    rfl
  | succ m ih =>
    intro i n h hs hn
    obtain ⟨n, rfl⟩ : ∃ k, n = k + 1 := ⟨n - 1, by omega⟩
    have hi : i < s.length := by omega
    have w : IntKind.wrap .i64 ((i : Int) + 1) = ((i + 1 : Nat) : Int) := by rw [wrap_id] <;> omega
    have z : Go.Iv.ile (0 : Int) (i : Int) = true := ile_t (by omega)
    rw [List.drop_eq_getElem_cons hi]
    simp only [L32_2, len, ilt_t (show (i : Int) < ((s.length : Nat) : Int) by omega), z, cond_true, Int.toNat_natCast, List.getElem?_eq_getElem hi, Option.bind_some, w]
    generalize hc : s[i] = c
    simp only [run, List.takeWhile, dig]
    have e1 : UInt8.toNat 48 = 48 := rfl
    have e2 : UInt8.toNat 57 = 57 := rfl
    rw [e1, e2]
    cases h1 : Nat.ble 48 c.toNat with
    | false => simp only [cond_false, Option.bind_some, Bool.false_and]; rfl
    | true =>
      simp only [cond_true, Option.bind_some, Bool.true_and]
      cases h2 : Nat.ble c.toNat 57 with
      | false => simp only [cond_false]; rfl
      | true =>
        simp only [cond_true]
        rw [ih (i + 1) n (by omega) hs (by omega)]
        simp only [run, List.length_cons]
        congr 5; omega
theorem run_take (s : List UInt8) : s.take (run s).length = run s := by
  have h := (List.takeWhile_prefix dig (l := s))
  exact (List.prefix_iff_eq_take.1 h).symm
theorem runR_spec (n : Nat) (s : List UInt8) (i : Nat) (hi : i ≤ s.length) (hs : s.length ≤ 1000000) (hn : s.length ≤ n) :
    runR n s (i : Int) = some (run (s.drop i), ((i + (run (s.drop i)).length : Nat) : Int), ()) := by
  unfold runR
  have h := run_len (s.drop i)
  rw [List.length_drop] at h
  rw [run_loop s (i : Int) (s.length - i) i (n + 1) (by omega) hs (by omega)]
  simp only [Option.bind_some, len, ile_t (show (0 : Int) ≤ ((i + (run (s.drop i)).length : Nat) : Int) by omega), ile_t (show ((i + (run (s.drop i)).length : Nat) : Int) ≤ ((s.length : Nat) : Int) by omega),
    ile_t (show (0 : Int) ≤ (i : Int) by omega), Int.toNat_natCast, ile_t (show (i : Int) ≤ ((i + (run (s.drop i)).length : Nat) : Int) by omega), Bool.and_self, cond_true]
  rw [Nat.add_sub_cancel_left, run_take]

/-! ### Noughts left off -/
theorem tlb (n : Nat) (c : UInt8) : ∀ (s : List UInt8) (n : Nat), s.length + 1 ≤ n → L50_1 n s c = some ((s.dropWhile (· == c), ()), ())
  | [], n, h => by
    obtain ⟨n, rfl⟩ : ∃ k, n = k + 1 := ⟨n - 1, by omega⟩
    rfl
  | x :: r, n, h => by
    obtain ⟨n, rfl⟩ : ∃ k, n = k + 1 := ⟨n - 1, by omega⟩
    simp only [List.length_cons] at h
    simp only [L50_1, len, ilt_t (show (0 : Int) < (((x :: r).length : Nat) : Int) by simp only [List.length_cons]; omega), ile_t (show (1 : Int) ≤ (((x :: r).length : Nat) : Int) by simp only [List.length_cons]; omega),
      cond_true, List.getElem?_cons_zero, Option.bind_some, take_all, List.dropWhile]
    cases x == c with
    | false => rfl
    | true => exact tlb n c r n (by omega)
theorem trimLeftByte_spec (n : Nat) (s : List UInt8) (c : UInt8) (hn : s.length ≤ n) : trimLeftByte n s c = some (s.dropWhile (· == c), ()) := by
  unfold trimLeftByte; rw [tlb 0 c s (n + 1) (by omega)]; rfl

/-- Without the last ones. -/
def trimR (s : List UInt8) : List UInt8 := (s.reverse.dropWhile (· == 48)).reverse
theorem trimR_concat (s : List UInt8) (x : UInt8) : trimR (s ++ [x]) = bif x == 48 then trimR s else s ++ [x] := by
  unfold trimR
  rw [List.reverse_append]
  simp only [List.reverse_cons, List.reverse_nil, List.nil_append, List.singleton_append, List.dropWhile]
  cases x == 48 with
  | false => simp
  | true => rfl
theorem trimR_len (s : List UInt8) : (trimR s).length ≤ s.length := by
  unfold trimR
  rw [List.length_reverse]
  have := (List.dropWhile_suffix (· == (48 : UInt8)) (l := s.reverse)).length_le
  rwa [List.length_reverse] at this
theorem last_cases {α : Type} (s : List α) : s = [] ∨ ∃ r x, s = r ++ [x] := by
  rcases List.eq_nil_or_concat s with h | ⟨r, x, h⟩
  · exact .inl h
  · exact .inr ⟨r, x, by rw [h, List.concat_eq_append]⟩
theorem trb : ∀ (m : Nat) (s : List UInt8) (n : Nat), s.length = m → s.length ≤ 1000000 → m + 1 ≤ n → L54_1 n s 48 = some ((trimR s, ()), ()) := by
  intro m
  induction m with
  | zero =>
    intro s n h _ hn
    obtain ⟨n, rfl⟩ : ∃ k, n = k + 1 := ⟨n - 1, by omega⟩
    cases s with
    | nil => rfl
    | cons => cases h
  | succ m ih =>
    intro s n h hs hn
    obtain ⟨n, rfl⟩ : ∃ k, n = k + 1 := ⟨n - 1, by omega⟩
    rcases last_cases s with rfl | ⟨r, x, rfl⟩
    · cases h
    have hl : (r ++ [x]).length = r.length + 1 := by simp
    rw [hl] at h hs
    have w : IntKind.wrap .i64 ((((r.length + 1 : Nat)) : Int) - 1) = (r.length : Int) := by rw [wrap_id] <;> omega
    have hg : (r ++ [x])[r.length]? = some x := by simp
    simp only [L54_1, len, hl, w, ilt_t (show (0 : Int) < ((r.length + 1 : Nat) : Int) by omega), ile_t (show (0 : Int) ≤ (r.length : Int) by omega), ile_t (show (r.length : Int) ≤ ((r.length + 1 : Nat) : Int) by omega), cond_true, Int.toNat_natCast, hg, Option.bind_some, Bool.and_self, Nat.sub_zero, List.drop_zero,
      trimR_concat, List.take_left]
    cases x == 48 with
    | false => rfl
    | true => exact ih r n (by omega) (by omega) (by omega)
theorem trimRightByte_spec (n : Nat) (s : List UInt8) (hs : s.length ≤ 1000000) (hn : s.length ≤ n) : trimRightByte n s 48 = some (trimR s, ()) := by
  unfold trimRightByte; rw [trb _ s (n + 1) rfl hs (by omega)]; rfl
end Go.Proofs.YtpobfjjmnemioaaDoor

/- Law 5: numbers without noughts at their ends. -/
namespace Go.Proofs.YtpobfjjmnemioaaDoor
open Go Go.Iv Go.Gv
set_option linter.unusedSimpArgs false
set_option linter.unusedVariables false

abbrev Num := Bool × (List UInt8 × (Int × Int))
def nought (b : Bool) : Num := (b, ([48], (0, 0)))
def tl (d : List UInt8) : List UInt8 := d.dropWhile (· == 48)
def norm (b : Bool) (d : List UInt8) (e : Int) : Num :=
  bif (trimR (tl d)).isEmpty then nought b else (b, (trimR (tl d), (e + (len (tl d) - len (trimR (tl d))), 0)))
theorem beq_nil (l : List UInt8) : (l == ([] : List UInt8)) = l.isEmpty := by cases l <;> rfl
theorem tl_len (d : List UInt8) : (tl d).length ≤ d.length := (List.dropWhile_suffix (· == (48 : UInt8)) (l := d)).length_le
theorem bindb {α : Type} (b : Bool) (f : Bool → Option α) : (Option.bind (bif b then some Bool.true else some Bool.false) f) = f b := by cases b <;> rfl

theorem whole_spec (n : Nat) (b : Bool) (d : List UInt8) (e : Int) (h1 : -1000000000000 ≤ e) (h2 : e ≤ 1000000000000) (hs : d.length ≤ 1000000) (hn : d.length ≤ n) :
    whole n b d e = some (norm b d e, ()) := by
  have l1 := tl_len d
  have l2 := trimR_len (tl d)
  unfold whole
  simp only [bindb, beq_nil]
  cases h : d.isEmpty with
  | true =>
    have : d = [] := by cases d with
      | nil => rfl
      | cons => cases h
    subst this
    rfl
  | false =>
    simp only [cond_false]
    rw [trimLeftByte_spec n d 48 hn]
    simp only [Option.bind_some]
    show (bif (tl d).isEmpty then _ else _) = _
    change (bif (tl d).isEmpty then (bif (tl d).isEmpty then some (nought b, ()) else some ((b, (tl d, (_, 0))), ())) else Option.bind (trimRightByte n (tl d) 48) _) = _
    cases h3 : (tl d).isEmpty with
    | true =>
      have : tl d = [] := by cases h4 : tl d with
        | nil => rfl
        | cons => rw [h4] at h3; cases h3
      simp only [cond_true]
      unfold norm
      rw [this]; rfl
    | false =>
      simp only [cond_false]
      rw [trimRightByte_spec n (tl d) (by omega) (by omega)]
      simp only [Option.bind_some]
      unfold norm
      have w1 : IntKind.wrap .i64 (e + len (tl d)) = e + len (tl d) := by unfold len; rw [wrap_id] <;> omega
      have w2 : IntKind.wrap .i64 (e + len (tl d) - len (trimR (tl d))) = e + (len (tl d) - len (trimR (tl d))) := by unfold len; rw [wrap_id] <;> omega
      have hd : List.dropWhile (fun x => x == 48) d = tl d := rfl
      rw [hd, w1, w2]
      cases (trimR (tl d)).isEmpty <;> rfl

/-! ### The reference's -/
def strip : List UInt8 → List UInt8
  | [] => []
  | [x] => [x]
  | x :: y :: r => bif x == 48 then strip (y :: r) else x :: y :: r
theorem strip_loop (a : Bool) (e : Int) (c0 : Bool) (c1 : List UInt8) (c2 c3 : Int) : ∀ (s : List UInt8) (n : Nat), s.length + 1 ≤ n →
    L31_1 n a s e c0 c1 c2 c3 = some ((a, (strip s, (e, ((), ())))), ((c0, (c1, (c2, (c3, ())))), ())) := by
  intro s
  induction s with
  | nil =>
    intro n h
    obtain ⟨n, rfl⟩ : ∃ k, n = k + 1 := ⟨n - 1, by omega⟩
    rfl
  | cons x r ih =>
    intro n h
    obtain ⟨n, rfl⟩ : ∃ k, n = k + 1 := ⟨n - 1, by omega⟩
    cases r with
    | nil => rfl
    | cons y r =>
      simp only [List.length_cons] at h
      have hl : (1 : Int) < len (x :: y :: r) := by simp only [len, List.length_cons]; omega
      simp only [L31_1, ilt_t hl, ile_t (Int.le_of_lt hl), cond_true, List.getElem?_cons_zero, Option.bind_some, take_all, strip]
      cases x == 48 with
      | false => rfl
      | true => exact ih n (by simp only [List.length_cons]; omega)
theorem strip_tl : ∀ (s : List UInt8), ((tl s).isEmpty = true → strip s = [] ∨ strip s = [48]) ∧ ((tl s).isEmpty = false → strip s = tl s)
  | [] => ⟨fun _ => .inl rfl, fun h => by cases h⟩
  | [x] => by
    unfold tl strip
    simp only [List.dropWhile]
    cases h : x == 48 with
    | false => exact ⟨fun h => (by cases h), fun _ => rfl⟩
    | true => exact ⟨fun _ => .inr (by rw [beq_iff_eq.1 h]), fun h => by cases h⟩
  | x :: y :: r => by
    have ih := strip_tl (y :: r)
    unfold tl at ih ⊢
    rw [List.dropWhile, strip]
    cases h : x == 48 with
    | false => exact ⟨fun h => (by cases h), fun _ => rfl⟩
    | true => exact ih
theorem tl_head (s : List UInt8) (x : UInt8) (r : List UInt8) (h : tl s = x :: r) : (x == 48) = false := by
  induction s with
  | nil => cases h
  | cons y s ih =>
    unfold tl at h ih
    rw [List.dropWhile] at h
    cases hy : y == 48 with
    | true => rw [hy] at h; exact ih h
    | false =>
      rw [hy] at h
      injection h with h1 h2
      rw [← h1]; exact hy
theorem trimR_cons (x : UInt8) (r : List UInt8) (h : (x == 48) = false) : (trimR (x :: r)).isEmpty = false := by
  unfold trimR
  rw [List.reverse_cons, List.dropWhile_append]
  cases h2 : (r.reverse.dropWhile (· == 48)).isEmpty with
  | true =>
    rw [if_pos rfl]
    simp only [List.dropWhile, h]
    rfl
  | false =>
    rw [if_neg (by decide)]
    simp
theorem back_loop (a : Bool) (c0 : Bool) (c1 : List UInt8) (c2 c3 : Int) : ∀ (m : Nat) (s : List UInt8) (e : Int) (n : Nat), s.length = m → (trimR s).isEmpty = false → s.length ≤ 1000000 → -10000000000000 ≤ e → e + s.length ≤ 10000000000000 → m + 1 ≤ n →
    L31_5 n a s e c0 c1 c2 c3 = some ((a, (trimR s, (e + (len s - len (trimR s)), ((), ())))), ((c0, (c1, (c2, (c3, ())))), ())) := by
  intro m
  induction m with
  | zero =>
    intro s e n h h2
    cases s with
    | nil => cases h2
    | cons => cases h
  | succ m ih =>
    intro s e n h h2 hs he1 he2 hn
    obtain ⟨n, rfl⟩ : ∃ k, n = k + 1 := ⟨n - 1, by omega⟩
    rcases last_cases s with rfl | ⟨r, x, rfl⟩
    · cases h
    have hl : (r ++ [x]).length = r.length + 1 := by simp
    rw [hl] at h hs he2
    have w : IntKind.wrap .i64 ((((r.length + 1 : Nat)) : Int) - 1) = (r.length : Int) := by rw [wrap_id] <;> omega
    have w2 : IntKind.wrap .i64 (e + 1) = e + 1 := by rw [wrap_id] <;> omega
    have hg : (r ++ [x])[r.length]? = some x := by simp
    rw [trimR_concat] at h2
    simp only [L31_5, len, hl, w, w2, ile_t (show (0 : Int) ≤ (r.length : Int) by omega), ile_t (show (r.length : Int) ≤ ((r.length + 1 : Nat) : Int) by omega), cond_true, Int.toNat_natCast, hg, Option.bind_some, Bool.and_self, Nat.sub_zero, List.drop_zero,
      trimR_concat, List.take_left]
    cases hx : x == 48 with
    | false =>
      simp only [cond_false, hl]
      congr 6
      omega
    | true =>
      rw [hx] at h2
      simp only [cond_true]
      rw [ih r (e + 1) n (by omega) h2 (by omega) (by omega) (by omega) (by omega)]
      have q : e + 1 + (len r - len (trimR r)) = e + (((r.length + 1 : Nat) : Int) - ((trimR r).length : Nat)) := by unfold len; omega
      rw [q]
theorem tidyR_spec (n : Nat) (b : Bool) (d : List UInt8) (e : Int) (h1 : -1000000000000 ≤ e) (h2 : e ≤ 1000000000000) (hs : d.length ≤ 1000000) (hn : d.length ≤ n) :
    tidyR n b d e = some (norm b d e, ()) := by
  have l1 := tl_len d
  unfold tidyR
  rw [strip_loop b e _ _ _ _ d (n + 1) (by omega)]
  simp only [Option.bind_some]
  obtain ⟨k1, k2⟩ := strip_tl d
  cases h : (tl d).isEmpty with
  | true =>
    have h0 : tl d = [] := by cases h4 : tl d with
      | nil => rfl
      | cons => rw [h4] at h; cases h
    have hz : norm b d e = nought b := by unfold norm; rw [h0]; rfl
    rw [hz]
    rcases k1 h with k | k <;> rw [k] <;> rfl
  | false =>
    rw [k2 h]
    cases h4 : tl d with
    | nil => rw [h4] at h; cases h
    | cons x r =>
      have hx := tl_head d x r h4
      have hr := trimR_cons x r hx
      have e1 : ((x :: r) == ([48] : List UInt8)) = false := by
        show ((x == 48) && _) = false
        rw [hx]; rfl
      have e2 : ((x :: r) == ([] : List UInt8)) = false := rfl
      rw [h4] at l1
      simp only [e1, e2, cond_false, Option.bind_some]
      rw [back_loop b _ _ _ _ _ (x :: r) e (n + 1) rfl hr (by omega) (by omega) (by omega) (by omega)]
      simp only [Option.bind_some]
      unfold norm
      rw [h4, hr]
      rfl
end Go.Proofs.YtpobfjjmnemioaaDoor

/- Law 5: digits times a number. -/
namespace Go.Proofs.YtpobfjjmnemioaaDoor
open Go Go.Iv Go.Gv
set_option linter.unusedSimpArgs false
set_option linter.unusedVariables false

/-! ### Hex -/
def hv (c : UInt8) : Int := if 48 ≤ ub c ∧ ub c ≤ 57 then ub c - 48 else if 97 ≤ ub c ∧ ub c ≤ 102 then ub c - 87 else if 65 ≤ ub c ∧ ub c ≤ 70 then ub c - 55 else -1
theorem hex_spec (n : Nat) (c : UInt8) : hex n (IntKind.wrap .i64 (ub c)) = some (hv c, ()) := by
  have hb := ub_lt c
  rw [ub_wrap]
  unfold hex hv
  generalize ub c = x at *
  have e : (bif ile 48 x then some (ile x 57) else some false) = some (decide (48 ≤ x ∧ x ≤ 57)) := by
    rw [ile_eq, ile_eq]
    by_cases h1 : 48 ≤ x <;> by_cases h2 : x ≤ 57 <;> simp [h1, h2]
  have e2 : (bif ile 97 x then some (ile x 102) else some false) = some (decide (97 ≤ x ∧ x ≤ 102)) := by
    rw [ile_eq, ile_eq]
    by_cases h1 : 97 ≤ x <;> by_cases h2 : x ≤ 102 <;> simp [h1, h2]
  have e3 : (bif ile 65 x then some (ile x 70) else some false) = some (decide (65 ≤ x ∧ x ≤ 70)) := by
    rw [ile_eq, ile_eq]
    by_cases h1 : 65 ≤ x <;> by_cases h2 : x ≤ 70 <;> simp [h1, h2]
  rw [e, e2, e3]
  have w1 : IntKind.wrap .i64 (x - 48) = x - 48 := by rw [wrap_id] <;> omega
  have w2 : IntKind.wrap .i64 (IntKind.wrap .i64 (x - 97) + 10) = x - 87 := by rw [wrap_id (x := x - 97), wrap_id] <;> omega
  have w3 : IntKind.wrap .i64 (IntKind.wrap .i64 (x - 65) + 10) = x - 55 := by rw [wrap_id (x := x - 65), wrap_id] <;> omega
  rw [w1, w2, w3]
  by_cases h1 : 48 ≤ x ∧ x ≤ 57
  · rw [if_pos h1, decide_eq_true h1]; rfl
  by_cases h2 : 97 ≤ x ∧ x ≤ 102
  · rw [if_neg h1, decide_eq_false h1, if_pos h2, decide_eq_true h2]; rfl
  by_cases h3 : 65 ≤ x ∧ x ≤ 70
  · rw [if_neg h1, decide_eq_false h1, if_neg h2, decide_eq_false h2, if_pos h3, decide_eq_true h3]; rfl
  rw [if_neg h1, decide_eq_false h1, if_neg h2, decide_eq_false h2, if_neg h3, decide_eq_false h3]; rfl
theorem hexR_spec (n : Nat) (c : UInt8) : hexR n (IntKind.wrap .i64 (ub c)) = some (hv c, ()) := hex_spec n c
theorem hv_lt (c : UInt8) : -1 ≤ hv c ∧ hv c ≤ 15 := by
  unfold hv
  split
  · omega
  split
  · omega
  split <;> omega
theorem hv_dig (c : UInt8) : (0 ≤ hv c ∧ hv c < 10) ↔ dig c = true := by
  have e : dig c = true ↔ (48 ≤ ub c ∧ ub c ≤ 57) := by
    unfold dig ub
    rw [Bool.and_eq_true, Nat.ble_eq, Nat.ble_eq]; omega
  rw [e]
  unfold hv
  split
  · omega
  split
  · omega
  split <;> omega
theorem hv_ub (c : UInt8) (h : dig c = true) : hv c = ub c - 48 := by
  have e : (48 ≤ ub c ∧ ub c ≤ 57) := by
    unfold dig at h; unfold ub
    rw [Bool.and_eq_true, Nat.ble_eq, Nat.ble_eq] at h; omega
  unfold hv; rw [if_pos e]

/-! ### Digits times a number -/
def Dg (l : List Int) : Prop := ∀ x, x ∈ l → 0 ≤ x ∧ x ≤ 9
theorem Dg.nil : Dg [] := fun x h => by cases h
theorem Dg.head {x : Int} {r : List Int} (h : Dg (x :: r)) : 0 ≤ x ∧ x ≤ 9 := h x (.head _)
theorem Dg.tail {x : Int} {r : List Int} (h : Dg (x :: r)) : Dg r := fun y hy => h y (.tail _ hy)
theorem Dg.cons {x : Int} {r : List Int} (h1 : 0 ≤ x ∧ x ≤ 9) (h : Dg r) : Dg (x :: r) := fun y hy => by
  cases hy with
  | head => exact h1
  | tail _ hy => exact h y hy
theorem Dg.app {a b : List Int} (h1 : Dg a) (h2 : Dg b) : Dg (a ++ b) := fun y hy => by
  rcases List.mem_append.1 hy with h | h
  · exact h1 y h
  · exact h2 y h
theorem Dg.drop {a : List Int} (h : Dg a) (i : Nat) : Dg (a.drop i) := fun y hy => h y (List.mem_of_mem_drop hy)

def mulA (k : Int) : List Int → Int → List Int × Int
  | [], m => ([], m)
  | x :: r, m => (((m + x * k) % 10) :: (mulA k r ((m + x * k) / 10)).1, (mulA k r ((m + x * k) / 10)).2)
def carry (m : Int) : List Int := if m = 0 then [] else if m < 10 then [m % 10] else [m % 10, m / 10 % 10]
def mul (k : Int) (l : List Int) (m : Int) : List Int := (mulA k l m).1 ++ carry (mulA k l m).2
theorem prod_le {x k : Int} (h1 : 0 ≤ x ∧ x ≤ 9) (h2 : 0 ≤ k ∧ k ≤ 16) : 0 ≤ x * k ∧ x * k ≤ 144 := by
  refine ⟨Int.mul_nonneg h1.1 h2.1, ?_⟩
  have := Int.mul_le_mul h1.2 h2.2 h2.1 (by omega)
  omega
theorem mulA_ok (k : Int) (hk : 0 ≤ k ∧ k ≤ 16) : ∀ (l : List Int) (m : Int), Dg l → 0 ≤ m ∧ m ≤ 15 → Dg (mulA k l m).1 ∧ (0 ≤ (mulA k l m).2 ∧ (mulA k l m).2 ≤ 15) ∧ (mulA k l m).1.length = l.length
  | [], m, _, hm => ⟨Dg.nil, hm, rfl⟩
  | x :: r, m, hl, hm => by
    have hp := prod_le hl.head hk
    obtain ⟨i1, i2, i3⟩ := mulA_ok k hk r ((m + x * k) / 10) hl.tail (by omega)
    exact ⟨Dg.cons (by omega) i1, i2, by simp only [mulA, List.length_cons, i3]⟩
theorem carry_ok (m : Int) (hm : 0 ≤ m ∧ m ≤ 15) : Dg (carry m) ∧ (carry m).length ≤ 2 := by
  unfold carry
  split
  · exact ⟨Dg.nil, by simp⟩
  split
  · exact ⟨Dg.cons (by omega) Dg.nil, by simp⟩
  · exact ⟨Dg.cons (by omega) (Dg.cons (by omega) Dg.nil), by simp⟩
theorem mul_ok (k : Int) (hk : 0 ≤ k ∧ k ≤ 16) (l : List Int) (m : Int) (hl : Dg l) (hm : 0 ≤ m ∧ m ≤ 15) : Dg (mul k l m) ∧ (mul k l m).length ≤ l.length + 2 := by
  obtain ⟨i1, i2, i3⟩ := mulA_ok k hk l m hl hm
  obtain ⟨c1, c2⟩ := carry_ok _ i2
  refine ⟨i1.app c1, ?_⟩
  unfold mul
  rw [List.length_append]; omega

theorem carry_loop (m : Int) (hm : 0 ≤ m ∧ m ≤ 15) (acc : List Int) (ha : acc.length ≤ 100000) (n : Nat) (hn : 3 ≤ n) : L46_8 n m acc = some ((acc ++ carry m, ()), ()) := by
  have st : ∀ (m : Int) (acc : List Int) (n : Nat), 0 < m → m ≤ 15 → acc.length ≤ 100005 → L46_8 (n + 1) m acc = L46_8 n (m / 10) (acc ++ [m % 10]) := fun m acc n h1 h2 ha => by
    have w : IntKind.wrap .i64 (Int.tdiv m 10) = m / 10 := by rw [Int.tdiv_eq_ediv_of_nonneg (by omega), wrap_id] <;> omega
    simp only [L46_8, ilt_t h1, cond_true, List.length_singleton, List.length_cons, List.length_nil, roomle (show (acc.length + (0 + 1)) * 9 ≤ 1000000 by omega), w, Int.tmod_eq_emod_of_nonneg (show 0 ≤ m by omega)]
  have fin : ∀ (acc : List Int) (n : Nat), L46_8 (n + 1) 0 acc = some ((acc, ()), ()) := fun acc n => rfl
  obtain ⟨n, rfl⟩ : ∃ k, n = k + 3 := ⟨n - 3, by omega⟩
  unfold carry
  by_cases h0 : m = 0
  · subst h0
    rw [if_pos rfl, fin, List.append_nil]
  rw [if_neg h0, st m acc (n + 2) (by omega) (by omega) (by omega)]
  by_cases h1 : m < 10
  · rw [if_pos h1, show m / 10 = 0 by omega, fin]
  · rw [if_neg h1, st (m / 10) _ (n + 1) (by omega) (by omega) (by simp; omega), show m / 10 / 10 = 0 by omega, fin, List.append_assoc]
    rfl
theorem mulR_loop (k : Int) (hk : 0 ≤ k ∧ k ≤ 16) (l : List Int) (hl : Dg l) (hs : l.length ≤ 90000) : ∀ (d i n : Nat) (m : Int) (acc : List Int), i + d = l.length → acc.length = i → 0 ≤ m ∧ m ≤ 15 → d + 1 ≤ n →
    L46_3 n l k m acc (i : Int) = some (((mulA k (l.drop i) m).2, (acc ++ (mulA k (l.drop i) m).1, ())), ()) := by
  intro d
  induction d with
  | zero =>
    intro i n m acc h ha hm hn
    obtain ⟨n, rfl⟩ : ∃ k, n = k + 1 := ⟨n - 1, by omega⟩
    simp only [L46_3, len, ilt_f (show ((l.length : Nat) : Int) ≤ (i : Int) by omega), cond_false, List.drop_eq_nil_of_le (show l.length ≤ i by omega), mulA, List.append_nil]
  | succ d ih =>
    intro i n m acc h ha hm hn
    obtain ⟨n, rfl⟩ : ∃ k, n = k + 1 := ⟨n - 1, by omega⟩
    have hi : i < l.length := by omega
    have w : IntKind.wrap .i64 ((i : Int) + 1) = ((i + 1 : Nat) : Int) := by rw [wrap_id] <;> omega
    have hp := prod_le (hl _ (List.getElem_mem hi)) hk
    have w1 : IntKind.wrap .i64 (l[i] * k) = l[i] * k := by rw [wrap_id] <;> omega
    have w2 : IntKind.wrap .i64 (m + l[i] * k) = m + l[i] * k := by rw [wrap_id] <;> omega
    have w3 : IntKind.wrap .i64 ((m + l[i] * k) / 10) = (m + l[i] * k) / 10 := by rw [wrap_id] <;> omega
    have q0 : 0 ≤ m + l[i] * k := by omega
    rw [List.drop_eq_getElem_cons hi]
    simp only [L46_3, len, ilt_t (show (i : Int) < ((l.length : Nat) : Int) by omega), ile_t (show (0 : Int) ≤ (i : Int) by omega), cond_true, Int.toNat_natCast, List.getElem?_eq_getElem hi, Option.bind_some, w, w1, w2,
      Int.tdiv_eq_ediv_of_nonneg q0, Int.tmod_eq_emod_of_nonneg q0, w3, List.length_singleton, List.length_cons, List.length_nil, roomle (show (acc.length + (0 + 1)) * 9 ≤ 1000000 by omega), mulA]
    rw [ih (i + 1) n _ _ (by omega) (by simp; omega) (by omega) (by omega), List.append_assoc]
    rfl
theorem timesR_spec (n : Nat) (l : List Int) (k m : Int) (hk : 0 ≤ k ∧ k ≤ 16) (hl : Dg l) (hm : 0 ≤ m ∧ m ≤ 15) (hs : l.length ≤ 90000) (hn : l.length + 3 ≤ n) :
    timesR n l k m = some (bif (mul k l m).isEmpty then [0] else mul k l m, ()) := by
  obtain ⟨i1, i2, i3⟩ := mulA_ok k hk l m hl hm
  unfold timesR
  have := mulR_loop k hk l hl hs l.length 0 (n + 1) m [] (by omega) rfl hm (by omega)
  rw [List.drop_zero, List.nil_append] at this
  rw [show (0 : Int) = ((0 : Nat) : Int) from rfl, this]
  simp only [Option.bind_some]
  rw [carry_loop _ i2 _ (by omega) (n + 1) (by omega)]
  simp only [Option.bind_some]
  show (bif len (mul k l m) == 0 then some ([0], ()) else some (mul k l m, ())) = _
  cases mul k l m with
  | nil => rfl
  | cons x r =>
    have : (len (x :: r) == 0) = false := by rw [beq_eq_false_iff_ne]; simp only [len, List.length_cons]; omega
    rw [this]; rfl
theorem carryP (k : Int) (l : List Int) (m : Int) (hm : 0 ≤ m ∧ m ≤ 15) (hs : l.length ≤ 90000) (acc : List Int) (ha : acc.length ≤ 100000) (i : Nat) (hi : l.length ≤ i) (hi2 : i ≤ 100000) (n : Nat) (hn : 3 ≤ n) :
    L41_3 n l k m acc (i : Int) = some ((acc ++ carry m, ()), ()) := by
  have st : ∀ (m : Int) (acc : List Int) (i n : Nat), 0 < m → m ≤ 15 → acc.length ≤ 100005 → l.length ≤ i → i ≤ 100005 → L41_3 (n + 1) l k m acc (i : Int) = L41_3 n l k (m / 10) (acc ++ [m % 10]) ((i + 1 : Nat) : Int) := fun m acc i n h1 h2 ha hi hi2 => by
    have w : IntKind.wrap .i64 ((i : Int) + 1) = ((i + 1 : Nat) : Int) := by rw [wrap_id] <;> omega
    have w0 : IntKind.wrap .i64 (m + IntKind.wrap .i64 (0 * k)) = m := by rw [Int.zero_mul, wrap_id (x := 0), wrap_id] <;> omega
    have w1 : IntKind.wrap .i64 (Int.tdiv m 10) = m / 10 := by rw [Int.tdiv_eq_ediv_of_nonneg (by omega), wrap_id] <;> omega
    simp only [L41_3, len, ilt_f (show ((l.length : Nat) : Int) ≤ (i : Int) by omega), ilt_t h1, cond_true, cond_false, Option.bind_some, w0, List.length_singleton, List.length_cons, List.length_nil, roomle (show (acc.length + (0 + 1)) * 9 ≤ 1000000 by omega), w, w1, Int.tmod_eq_emod_of_nonneg (show 0 ≤ m by omega)]
  have fin : ∀ (acc : List Int) (i n : Nat), l.length ≤ i → L41_3 (n + 1) l k 0 acc (i : Int) = some ((acc, ()), ()) := fun acc i n hi => by
    simp only [L41_3, len, ilt_f (show ((l.length : Nat) : Int) ≤ (i : Int) by omega), ilt_f (Int.le_refl 0), cond_false, Option.bind_some]
  obtain ⟨n, rfl⟩ : ∃ k, n = k + 3 := ⟨n - 3, by omega⟩
  unfold carry
  by_cases h0 : m = 0
  · subst h0
    rw [if_pos rfl, fin _ _ _ hi, List.append_nil]
  rw [if_neg h0, st m acc i (n + 2) (by omega) (by omega) (by omega) hi (by omega)]
  by_cases h1 : m < 10
  · rw [if_pos h1, show m / 10 = 0 by omega, fin _ _ _ (by omega)]
  · rw [if_neg h1, st (m / 10) _ (i + 1) (n + 1) (by omega) (by omega) (by simp; omega) (by omega) (by omega), show m / 10 / 10 = 0 by omega, fin _ _ _ (by omega), List.append_assoc]
    rfl
theorem mulP_loop (k : Int) (hk : 0 ≤ k ∧ k ≤ 16) (l : List Int) (hl : Dg l) (hs : l.length ≤ 90000) : ∀ (d i n : Nat) (m : Int) (acc : List Int), i + d = l.length → acc.length = i → 0 ≤ m ∧ m ≤ 15 → d + 3 ≤ n →
    L41_3 n l k m acc (i : Int) = some ((acc ++ ((mulA k (l.drop i) m).1 ++ carry (mulA k (l.drop i) m).2), ()), ()) := by
  intro d
  induction d with
  | zero =>
    intro i n m acc h ha hm hn
    rw [List.drop_eq_nil_of_le (show l.length ≤ i by omega)]
    exact carryP k l m hm hs acc (by omega) i (by omega) (by omega) n (by omega)
  | succ d ih =>
    intro i n m acc h ha hm hn
    obtain ⟨n, rfl⟩ : ∃ k, n = k + 1 := ⟨n - 1, by omega⟩
    have hi : i < l.length := by omega
    have w : IntKind.wrap .i64 ((i : Int) + 1) = ((i + 1 : Nat) : Int) := by rw [wrap_id] <;> omega
    have hp := prod_le (hl _ (List.getElem_mem hi)) hk
    have w1 : IntKind.wrap .i64 (l[i] * k) = l[i] * k := by rw [wrap_id] <;> omega
    have w2 : IntKind.wrap .i64 (m + l[i] * k) = m + l[i] * k := by rw [wrap_id] <;> omega
    have w3 : IntKind.wrap .i64 ((m + l[i] * k) / 10) = (m + l[i] * k) / 10 := by rw [wrap_id] <;> omega
    have q0 : 0 ≤ m + l[i] * k := by omega
    rw [List.drop_eq_getElem_cons hi]
    simp only [L41_3, len, ilt_t (show (i : Int) < ((l.length : Nat) : Int) by omega), ile_t (show (0 : Int) ≤ (i : Int) by omega), cond_true, Int.toNat_natCast, List.getElem?_eq_getElem hi, Option.bind_some, w, w1, w2,
      Int.tdiv_eq_ediv_of_nonneg q0, Int.tmod_eq_emod_of_nonneg q0, w3, List.length_singleton, List.length_cons, List.length_nil, roomle (show (acc.length + (0 + 1)) * 9 ≤ 1000000 by omega), mulA]
    rw [ih (i + 1) n _ _ (by omega) (by simp; omega) (by omega) (by omega), List.append_assoc]
    rfl
theorem times_spec (n : Nat) (l : List Int) (k m : Int) (hk : 0 ≤ k ∧ k ≤ 16) (hl : Dg l) (hm : 0 ≤ m ∧ m ≤ 15) (hs : l.length ≤ 90000) (hn : l.length + 3 ≤ n) :
    times n l k m = some (mul k l m, ()) := by
  unfold times
  have := mulP_loop k hk l hl hs l.length 0 n m [] (by omega) rfl hm (by omega)
  rw [List.drop_zero, List.nil_append] at this
  rw [show (0 : Int) = ((0 : Nat) : Int) from rfl, this]
  rfl
end Go.Proofs.YtpobfjjmnemioaaDoor

/- Law 5: digits as a text. -/
namespace Go.Proofs.YtpobfjjmnemioaaDoor
open Go Go.Iv Go.Gv
set_option linter.unusedSimpArgs false
set_option linter.unusedVariables false

def ch (x : Int) : UInt8 := UInt8.ofNat (Int.toNat (IntKind.wrap .u8 (IntKind.wrap .i64 (48 + x))))
theorem ch_dig (x : Int) (h : 0 ≤ x ∧ x ≤ 9) : (ch x == 48) = (x == 0) := by
  have : x = 0 ∨ x = 1 ∨ x = 2 ∨ x = 3 ∨ x = 4 ∨ x = 5 ∨ x = 6 ∨ x = 7 ∨ x = 8 ∨ x = 9 := by omega
  rcases this with rfl | rfl | rfl | rfl | rfl | rfl | rfl | rfl | rfl | rfl <;> decide
theorem ch_zero : ch 0 = 48 := by decide
theorem rev_take {α : Type} (l : List α) (i : Nat) (h : i < l.length) : (l.take (i + 1)).reverse = l[i] :: (l.take i).reverse := by
  rw [List.take_succ_eq_append_getElem h, List.reverse_append]; rfl

/-! ### The program's -/
def tx (l : List Int) : List UInt8 := bif (tl (l.reverse.map ch)).isEmpty then [48] else tl (l.reverse.map ch)
theorem text_loop (l : List Int) (hs : l.length ≤ 100000) : ∀ (i n : Nat) (acc : List UInt8), i ≤ l.length → acc.length + i ≤ 100000 → i + 1 ≤ n →
    L43_3 n l ((i : Int) - 1) acc = some (((), ()), (((), (acc ++ (l.take i).reverse.map ch, ())), ())) := by
  intro i
  induction i with
  | zero =>
    intro n acc h ha hn
    obtain ⟨n, rfl⟩ : ∃ k, n = k + 1 := ⟨n - 1, by omega⟩
    simp only [L43_3, ile_f (show ((0 : Nat) : Int) - 1 < 0 by omega), cond_false, List.take_zero, List.reverse_nil, List.map_nil, List.append_nil]
  | succ i ih =>
    intro n acc h ha hn
    obtain ⟨n, rfl⟩ : ∃ k, n = k + 1 := ⟨n - 1, by omega⟩
    have e : ((i + 1 : Nat) : Int) - 1 = (i : Int) := by omega
    have w : IntKind.wrap .i64 ((i : Int) - 1) = (i : Int) - 1 := by rw [wrap_id] <;> omega
    rw [e, rev_take l i (by omega)]
    simp only [L43_3, ile_t (show (0 : Int) ≤ (i : Int) by omega), cond_true, Int.toNat_natCast, List.getElem?_eq_getElem (show i < l.length by omega), Option.bind_some, w, List.length_singleton, List.length_cons, List.length_nil, roomle (show (acc.length + (0 + 1)) * 2 ≤ 1000000 by omega)]
    rw [ih n _ (by omega) (by simp; omega) (by omega), List.map_cons, List.append_assoc]
    rfl
theorem isEmpty_eq {α : Type} {l : List α} (h : l.isEmpty = true) : l = [] := by
  cases l with
  | nil => rfl
  | cons => cases h
theorem text_spec (n : Nat) (l : List Int) (hs : l.length ≤ 90000) (hn : l.length + 1 ≤ n) : text n l = some (tx l, ()) := by
  unfold text
  rcases last_cases l with rfl | ⟨r, x, rfl⟩
  · rfl
  have hl : (r ++ [x]).length = r.length + 1 := by simp
  have hg : (r ++ [x])[r.length]? = some x := by simp
  rw [hl] at hs hn
  have w : IntKind.wrap .i64 (((r.length + 1 : Nat) : Int) - 1) = (r.length : Int) := by rw [wrap_id] <;> omega
  have w2 : IntKind.wrap .i64 ((r.length : Int) - 1) = (r.length : Int) - 1 := by rw [wrap_id] <;> omega
  simp only [len, hl, w, w2, ile_t (show (0 : Int) ≤ (r.length : Int) by omega), cond_true, Int.toNat_natCast, hg, Option.bind_some]
  rw [text_loop (r ++ [x]) (by omega) r.length n _ (by omega) (by simp; omega) (by omega)]
  have e : List.take r.length (r ++ [x]) = r := by simp
  rw [e]
  have e2 : (UInt8.ofNat (Int.toNat (IntKind.wrap IntKind.u8 (IntKind.wrap IntKind.i64 ((48 : Int) + x))))) :: ([] : List UInt8) ++ (r.reverse.map ch) = ((r ++ [x]).reverse).map ch := by
    rw [List.reverse_append]; rfl
  rw [e2]
  unfold tx
  have hlen : (((r ++ [x]).reverse).map ch).length = r.length + 1 := by simp
  generalize ((r ++ [x]).reverse).map ch = c at *
  have hc : c.isEmpty = false := by
    cases c with
    | nil => simp at hlen
    | cons => rfl
  have hc2 : List.take c.length c = c := List.take_length
  have hb : (c == ([] : List UInt8)) = false := by rw [beq_nil]; exact hc
  simp only [Option.bind_some, hc, cond_false, ile_t (Int.le_refl _), ile_t (show ((c.length : Nat) : Int) ≤ 1099511627776 by omega), Bool.and_self, cond_true, Int.toNat_natCast, hc2, hb]
  rw [trimLeftByte_spec n c 48 (by omega)]
  simp only [Option.bind_some]
  show (bif !(tl c == ([] : List UInt8)) then some (tl c, ()) else some ([48], ())) = some (bif (tl c).isEmpty then [48] else tl c, ())
  rw [beq_nil]
  cases (tl c).isEmpty <;> rfl

/-! ### The reference's -/
def stripI : List Int → List Int
  | [] => []
  | [x] => [x]
  | x :: y :: r => bif x == 0 then stripI (y :: r) else x :: y :: r
theorem stripI_suf : ∀ (r : List Int), ∃ p, r = p ++ stripI r
  | [] => ⟨[], rfl⟩
  | [x] => ⟨[], rfl⟩
  | x :: y :: r => by
    rw [stripI]
    cases x == 0 with
    | false => exact ⟨[], rfl⟩
    | true =>
      obtain ⟨p, hp⟩ := stripI_suf (y :: r)
      exact ⟨x :: p, congrArg (x :: ·) hp⟩
theorem stripI_ch : ∀ (r : List Int), Dg r → r ≠ [] → (stripI r).map ch = bif (tl (r.map ch)).isEmpty then [48] else tl (r.map ch)
  | [], _, h => absurd rfl h
  | [x], hd, _ => by
    unfold tl
    simp only [stripI, List.map_cons, List.map_nil, List.dropWhile, ch_dig x hd.head]
    cases h : x == 0 with
    | false => rfl
    | true => rw [beq_iff_eq.1 h, ch_zero]; rfl
  | x :: y :: r, hd, _ => by
    have ih := stripI_ch (y :: r) hd.tail (by simp)
    unfold tl at ih ⊢
    rw [stripI, List.map_cons, List.dropWhile, ch_dig x hd.head]
    cases x == 0 with
    | false => rfl
    | true => exact ih
theorem wr1 (l : List Int) (hs : l.length ≤ 100000) : ∀ (i n : Nat), i ≤ l.length → i + 1 ≤ n → L45_2 n l (i : Int) = some ((l, (((stripI (l.take i).reverse).length : Int), ())), ()) := by
  intro i
  induction i with
  | zero =>
    intro n h hn
    obtain ⟨n, rfl⟩ : ∃ k, n = k + 1 := ⟨n - 1, by omega⟩
    rfl
  | succ i ih =>
    intro n h hn
    obtain ⟨n, rfl⟩ : ∃ k, n = k + 1 := ⟨n - 1, by omega⟩
    have w : IntKind.wrap .i64 (((i + 1 : Nat) : Int) - 1) = (i : Int) := by rw [wrap_id] <;> omega
    rw [rev_take l i (by omega)]
    cases i with
    | zero =>
      simp only [L45_2, ilt_f (show ((0 + 1 : Nat) : Int) ≤ 1 by omega), cond_false, Option.bind_some]
      rfl
    | succ i =>
      rw [rev_take l i (by omega)] at ih ⊢
      simp only [L45_2, ilt_t (show (1 : Int) < ((i + 1 + 1 : Nat) : Int) by omega), w, ile_t (show (0 : Int) ≤ ((i + 1 : Nat) : Int) by omega), cond_true, Int.toNat_natCast, List.getElem?_eq_getElem (show i + 1 < l.length by omega), Option.bind_some, stripI]
      cases l[i + 1] == 0 with
      | true => exact ih n (by omega) (by omega)
      | false =>
        simp only [cond_false, List.length_cons, List.length_reverse, List.length_take]
        congr 5
        omega
theorem set_rep {α : Type} (a v : α) (X : List α) : ∀ (j : Nat), List.set (List.replicate (j + 1) a ++ X) j v = List.replicate j a ++ v :: X
  | 0 => rfl
  | j + 1 => by
    rw [List.replicate_succ, List.cons_append, List.set_cons_succ, set_rep a v X j, List.replicate_succ, List.cons_append]
theorem wr2 (l : List Int) (k : Nat) (hk : k ≤ l.length) (hs : l.length ≤ 100000) : ∀ (d i n : Nat), i + d = k → d + 1 ≤ n →
    L45_6 n l (k : Int) (List.replicate d 0 ++ (l.take i).reverse.map ch) (i : Int) = some (((l.take k).reverse.map ch, ()), ()) := by
  intro d
  induction d with
  | zero =>
    intro i n h hn
    obtain ⟨n, rfl⟩ : ∃ k, n = k + 1 := ⟨n - 1, by omega⟩
    obtain rfl : i = k := by omega
    simp only [L45_6, ilt_f (Int.le_refl _), cond_false]
    rfl
  | succ d ih =>
    intro i n h hn
    obtain ⟨n, rfl⟩ : ∃ k, n = k + 1 := ⟨n - 1, by omega⟩
    have hi : i < l.length := by omega
    have w : IntKind.wrap .i64 (IntKind.wrap .i64 ((k : Int) - 1) - (i : Int)) = (d : Int) := by rw [wrap_id (x := (k : Int) - 1), wrap_id] <;> omega
    have w2 : IntKind.wrap .i64 ((i : Int) + 1) = ((i + 1 : Nat) : Int) := by rw [wrap_id] <;> omega
    have hl : (List.replicate (d + 1) (0 : UInt8) ++ (l.take i).reverse.map ch).length = k := by simp; omega
    have hg : d < (List.replicate (d + 1) (0 : UInt8) ++ (l.take i).reverse.map ch).length := by rw [hl]; omega
    simp only [L45_6, ilt_t (show (i : Int) < (k : Int) by omega), ile_t (show (0 : Int) ≤ (i : Int) by omega), cond_true, Int.toNat_natCast, List.getElem?_eq_getElem hi, Option.bind_some, w, w2, ile_t (show (0 : Int) ≤ (d : Int) by omega), len, hl, ilt_t (show (d : Int) < (k : Int) by omega), Bool.and_self,
      List.getElem?_eq_getElem hg, set_rep]
    have := ih (i + 1) n (by omega) (by omega)
    rw [rev_take l i hi] at this
    exact this
theorem writtenR_spec (n : Nat) (l : List Int) (hd : Dg l) (h0 : l ≠ []) (hs : l.length ≤ 90000) (hn : l.length ≤ n) : writtenR n l = some (tx l, ()) := by
  obtain ⟨p, hp⟩ := stripI_suf l.reverse
  have hr : Dg l.reverse := fun x hx => hd x (List.mem_reverse.1 hx)
  have hc := stripI_ch l.reverse hr (by simp [h0])
  have hl : l = (stripI l.reverse).reverse ++ p.reverse := by rw [← List.reverse_append, ← hp, List.reverse_reverse]
  have hk : (stripI l.reverse).length ≤ l.length := by
    have := congrArg List.length hl
    rw [List.length_append, List.length_reverse] at this
    omega
  have ht : (l.take (stripI l.reverse).length).reverse = stripI l.reverse := by
    conv => lhs; rw [show l.take (stripI l.reverse).length = (stripI l.reverse).reverse from by
      conv => lhs; arg 2; rw [hl]
      rw [List.take_left' (by rw [List.length_reverse])]]
    rw [List.reverse_reverse]
  unfold writtenR len
  rw [wr1 l (by omega) l.length (n + 1) (Nat.le_refl _) (by omega), List.take_length]
  simp only [Option.bind_some]
  rw [ile_t (show (0 : Int) ≤ ((stripI l.reverse).length : Nat) by omega), ile_t (Int.le_refl _), ile_t (show (((stripI l.reverse).length : Nat) : Int) * 2 ≤ 1099511627776 by omega)]
  simp only [Bool.and_self, cond_true, Int.toNat_natCast]
  have := wr2 l (stripI l.reverse).length hk (by omega) (stripI l.reverse).length 0 (n + 1) (by omega) (by omega)
  rw [List.take_zero, List.reverse_nil, List.map_nil, List.append_nil, ht] at this
  rw [show (0 : Int) = ((0 : Nat) : Int) from rfl, this]
  simp only [Option.bind_some]
  rw [hc]
  rfl
end Go.Proofs.YtpobfjjmnemioaaDoor

/- Law 5: plain digits in a base. -/
namespace Go.Proofs.YtpobfjjmnemioaaDoor
open Go Go.Iv Go.Gv
set_option linter.unusedSimpArgs false
set_option linter.unusedVariables false

def okd (base : Int) (c : UInt8) : Bool := decide (0 ≤ hv c ∧ hv c < base)
theorem okd_if (base : Int) (c : UInt8) : (bif ilt (hv c) 0 then some true else some (ile base (hv c))) = some (!okd base c) := by
  unfold okd
  by_cases h1 : hv c < 0
  · rw [ilt_t h1, decide_eq_false (by omega)]; rfl
  · rw [ilt_f (by omega), cond_false]
    by_cases h2 : base ≤ hv c
    · rw [ile_t h2, decide_eq_false (by omega)]; rfl
    · rw [ile_f (by omega), decide_eq_true (by omega)]; rfl
theorem okd_le {base : Int} (hb : base ≤ 16) {c : UInt8} (h : okd base c = true) : 0 ≤ hv c ∧ hv c ≤ 15 := by
  have := of_decide_eq_true h; omega
theorem okd_dig (c : UInt8) : okd 10 c = dig c := by
  have h := hv_dig c
  unfold okd
  cases hd : dig c with
  | true => exact decide_eq_true (h.2 hd)
  | false =>
    apply decide_eq_false
    intro h2
    have := h.1 h2
    rw [hd] at this; cases this
def fold (k : Int) : List Int → List UInt8 → List Int
  | l, [] => l
  | l, c :: r => fold k (mul k l (hv c)) r
def allD (base : Int) : List UInt8 → Bool
  | [] => true
  | c :: r => okd base c && allD base r
theorem allD_mem {base : Int} : ∀ {s : List UInt8}, allD base s = true → ∀ c, c ∈ s → okd base c = true
  | [], _, c, h => by cases h
  | x :: r, h, c, hc => by
    simp only [allD, Bool.and_eq_true] at h
    cases hc with
    | head => exact h.1
    | tail _ hc => exact allD_mem h.2 c hc
theorem fold_ok (k : Int) (hk : 0 ≤ k ∧ k ≤ 16) : ∀ (s : List UInt8) (l : List Int), Dg l → allD k s = true → Dg (fold k l s) ∧ (fold k l s).length ≤ l.length + 2 * s.length
  | [], l, hl, _ => ⟨hl, by simp [fold]⟩
  | c :: r, l, hl, h => by
    simp only [allD, Bool.and_eq_true] at h
    obtain ⟨m1, m2⟩ := mul_ok k hk l (hv c) hl (okd_le hk.2 h.1)
    obtain ⟨f1, f2⟩ := fold_ok k hk r _ m1 h.2
    exact ⟨f1, by simp only [fold, List.length_cons]; omega⟩

/-! ### The program's -/
theorem pl10 (s b : List UInt8) (l : List Int) (hs : b.length ≤ 100000) : ∀ (d i n : Nat), i + d = b.length → d + 1 ≤ n →
    L27_5 n s 10 l b (len b) (i : Int) = some (bif allD 10 (b.drop i) then .inl ((s, (10, (l, ()))), ()) else .inr (([], (false, ())), ())) := by
  intro d
  induction d with
  | zero =>
    intro i n h hn
    obtain ⟨n, rfl⟩ : ∃ k, n = k + 1 := ⟨n - 1, by omega⟩
    simp only [L27_5, len, ilt_f (show ((b.length : Nat) : Int) ≤ (i : Int) by omega), cond_false, List.drop_eq_nil_of_le (show b.length ≤ i by omega)]
    rfl
  | succ d ih =>
    intro i n h hn
    obtain ⟨n, rfl⟩ : ∃ k, n = k + 1 := ⟨n - 1, by omega⟩
    have hi : i < b.length := by omega
    have w : IntKind.wrap .i64 ((i : Int) + 1) = ((i + 1 : Nat) : Int) := by rw [wrap_id] <;> omega
    have e10 : ((10 : Int) != 10) = false := by decide
    have ih := ih (i + 1) n (by omega) (by omega)
    rw [List.drop_eq_getElem_cons hi]
    unfold len at ih ⊢
    simp only [L27_5, ilt_t (show (i : Int) < ((b.length : Nat) : Int) by omega), ile_t (show (0 : Int) ≤ (i : Int) by omega), cond_true, Int.toNat_natCast, List.getElem?_eq_getElem hi, Option.bind_some, w, hex_spec, okd_if, e10, cond_false, allD, ih]
    cases okd 10 b[i] <;> rfl
theorem plB (k : Int) (hk : 0 ≤ k ∧ k ≤ 16) (hk2 : (k != 10) = true) (s b : List UInt8) (hs : b.length ≤ 20000) : ∀ (d i n : Nat) (l : List Int), i + d = b.length → Dg l → l.length + 2 * d ≤ 40000 → 3 * d + l.length + 4 ≤ n →
    L27_5 n s k l b (len b) (i : Int) = some (bif allD k (b.drop i) then .inl ((s, (k, (fold k l (b.drop i), ()))), ()) else .inr (([], (false, ())), ())) := by
  intro d
  induction d with
  | zero =>
    intro i n l h hl hb hn
    obtain ⟨n, rfl⟩ : ∃ k, n = k + 1 := ⟨n - 1, by omega⟩
    simp only [L27_5, len, ilt_f (show ((b.length : Nat) : Int) ≤ (i : Int) by omega), cond_false, List.drop_eq_nil_of_le (show b.length ≤ i by omega)]
    rfl
  | succ d ih =>
    intro i n l h hl hb hn
    obtain ⟨n, rfl⟩ : ∃ k, n = k + 1 := ⟨n - 1, by omega⟩
    have hi : i < b.length := by omega
    have w : IntKind.wrap .i64 ((i : Int) + 1) = ((i + 1 : Nat) : Int) := by rw [wrap_id] <;> omega
    have ih := ih (i + 1) n
    rw [List.drop_eq_getElem_cons hi]
    unfold len at ih ⊢
    simp only [L27_5, ilt_t (show (i : Int) < ((b.length : Nat) : Int) by omega), ile_t (show (0 : Int) ≤ (i : Int) by omega), cond_true, Int.toNat_natCast, List.getElem?_eq_getElem hi, Option.bind_some, w, hex_spec, okd_if, hk2, allD]
    cases ho : okd k b[i] with
    | false => rfl
    | true =>
      have hm := okd_le hk.2 ho
      obtain ⟨m1, m2⟩ := mul_ok k hk l (hv b[i]) hl hm
      simp only [Bool.not_true, cond_false]
      rw [times_spec (n + 1) l k (hv b[i]) hk hl hm (by omega) (by omega)]
      simp only [Option.bind_some]
      rw [ih (mul k l (hv b[i])) (by omega) m1 (by omega) (by omega)]
      rfl
theorem of_loop (s : List UInt8) (hs : s.length ≤ 100000) (ha : allD 10 s = true) : ∀ (i n : Nat) (acc : List Int), i ≤ s.length → acc.length + i ≤ 100000 → i + 1 ≤ n →
    L42_5 n s acc ((i : Int) - 1) = some (.inl ((acc ++ (s.take i).reverse.map hv, ()), ())) := by
  intro i
  induction i with
  | zero =>
    intro n acc h hl hn
    obtain ⟨n, rfl⟩ : ∃ k, n = k + 1 := ⟨n - 1, by omega⟩
    simp only [L42_5, ile_f (show ((0 : Nat) : Int) - 1 < 0 by omega), cond_false, List.take_zero, List.reverse_nil, List.map_nil, List.append_nil]
  | succ i ih =>
    intro n acc h hl hn
    obtain ⟨n, rfl⟩ : ∃ k, n = k + 1 := ⟨n - 1, by omega⟩
    have hi : i < s.length := by omega
    have e : ((i + 1 : Nat) : Int) - 1 = (i : Int) := by omega
    have w : IntKind.wrap .i64 ((i : Int) - 1) = (i : Int) - 1 := by rw [wrap_id] <;> omega
    have hd := allD_mem ha s[i] (List.getElem_mem hi)
    have hu := hv_ub s[i] (by rw [← okd_dig]; exact hd)
    have hb := ub_lt s[i]
    have w2 : IntKind.wrap .i64 (IntKind.wrap .i64 (ub s[i]) - 48) = hv s[i] := by rw [ub_wrap, hu, wrap_id] <;> omega
    rw [e, rev_take s i hi]
    simp only [L42_5, ile_t (show (0 : Int) ≤ (i : Int) by omega), cond_true, Int.toNat_natCast, List.getElem?_eq_getElem hi, Option.bind_some, w, w2, okd_if, hd, Bool.not_true, cond_false, List.length_singleton, List.length_cons, List.length_nil, roomle (show (acc.length + (0 + 1)) * 9 ≤ 1000000 by omega)]
    rw [ih n _ (by omega) (by simp; omega) (by omega), List.map_cons, List.append_assoc]
    rfl
theorem of_spec (n : Nat) (s : List UInt8) (hs : s.length ≤ 5000) (ha : allD 10 s = true) (hn : s.length ≤ n) : of n s = some (s.reverse.map hv, ()) := by
  unfold of len
  have w : IntKind.wrap .i64 ((s.length : Int) - 1) = (s.length : Int) - 1 := by rw [wrap_id] <;> omega
  rw [ilt_f (show ((s.length : Nat) : Int) ≤ 5000 by omega), w, of_loop s (by omega) ha s.length (n + 1) [] (Nat.le_refl _) (by simp; omega) (by omega), List.take_length]
  rfl
theorem map_dg (s : List UInt8) (ha : allD 10 s = true) : Dg (s.reverse.map hv) := fun x hx => by
  obtain ⟨c, hc, rfl⟩ := List.mem_map.1 hx
  have := of_decide_eq_true (allD_mem ha c (List.mem_reverse.1 hc))
  omega
def pl (base : Int) (s : List UInt8) : List UInt8 × (Bool × Unit) :=
  bif s.isEmpty || (ilt 5000 (len s) || !allD base s) then ([], (false, ())) else (tx (bif base == 10 then s.reverse.map hv else fold base [] s), (true, ()))
theorem bad (s : List UInt8) (base : Int) (hb : base = 8 ∨ base = 10 ∨ base = 16) : (bif (s == ([] : List UInt8)) then
      some Bool.true
    else
    bif (Go.Iv.ilt (5000 : Int) (len s)) then
      some Bool.true
    else
    bif (base != (8 : Int)) then
      bif (base != (10 : Int)) then
        some (base != (16 : Int))
      else
      some Bool.false
    else
    some Bool.false) = some (s.isEmpty || ilt 5000 (len s)) := by
  rw [beq_nil]
  rcases hb with rfl | rfl | rfl <;> cases s.isEmpty <;> cases ilt 5000 (len s) <;> rfl
theorem plain_spec (n : Nat) (s : List UInt8) (base : Int) (hb : base = 8 ∨ base = 10 ∨ base = 16) (hn : 20000 ≤ n) : plain n s base = some (pl base s) := by
  have hk : 0 ≤ base ∧ base ≤ 16 := by omega
  unfold plain pl
  rw [bad s base hb]
  cases he : s.isEmpty with
  | true => rfl
  | false =>
    by_cases hl : s.length ≤ 5000
    · rw [ilt_f (show len s ≤ 5000 by unfold len; omega)]
      simp only [Bool.false_or, Option.bind_some, cond_false]
      by_cases h10 : base = 10
      · subst h10
        have := pl10 s s [] (by omega) s.length 0 (n + 2) (by omega) (by omega)
        rw [List.drop_zero] at this
        rw [show (0 : Int) = ((0 : Nat) : Int) from rfl, this]
        cases ha : allD 10 s with
        | false => rfl
        | true =>
          have e10 : ((10 : Int) == 10) = true := by decide
          simp only [Option.bind_some, cond_true, Bool.not_true, cond_false, e10]
          rw [of_spec (n + 2) s hl ha (by omega)]
          simp only [Option.bind_some]
          rw [text_spec n _ (by simp; omega) (by simp; omega)]
          rfl
      · have e10 : (base == 10) = false := beq_eq_false_iff_ne.2 h10
        have := plB base hk (by rw [bne, e10]; rfl) s s (by omega) s.length 0 (n + 2) [] (by omega) Dg.nil (by simp; omega) (by simp; omega)
        rw [List.drop_zero] at this
        rw [show (0 : Int) = ((0 : Nat) : Int) from rfl, this]
        cases ha : allD base s with
        | false => rfl
        | true =>
          obtain ⟨f1, f2⟩ := fold_ok base hk s [] Dg.nil ha
          rw [List.length_nil] at f2
          simp only [Option.bind_some, cond_true, Bool.not_true, cond_false, e10]
          rw [text_spec n _ (by omega) (by omega)]
          rfl
    · rw [ilt_t (show 5000 < len s by unfold len; omega)]
      rfl

/-! ### The reference's -/
theorem dgo (k : Int) (s : List UInt8) (hs : s.length ≤ 100000) : ∀ (d i n : Nat) (acc : List Int), i + d = s.length → acc.length = i → d + 1 ≤ n →
    L44_5 n s k acc (i : Int) = some (bif allD k (s.drop i) then .inl ((acc ++ (s.drop i).map hv, ()), ()) else .inr (((), ()), ())) := by
  intro d
  induction d with
  | zero =>
    intro i n acc h hl hn
    obtain ⟨n, rfl⟩ : ∃ k, n = k + 1 := ⟨n - 1, by omega⟩
    simp only [L44_5, len, ilt_f (show ((s.length : Nat) : Int) ≤ (i : Int) by omega), cond_false, List.drop_eq_nil_of_le (show s.length ≤ i by omega), List.map_nil, List.append_nil]
    rfl
  | succ d ih =>
    intro i n acc h hl hn
    obtain ⟨n, rfl⟩ : ∃ k, n = k + 1 := ⟨n - 1, by omega⟩
    have hi : i < s.length := by omega
    have w : IntKind.wrap .i64 ((i : Int) + 1) = ((i + 1 : Nat) : Int) := by rw [wrap_id] <;> omega
    have ih := ih (i + 1) n (acc ++ [hv s[i]]) (by omega) (by simp; omega) (by omega)
    rw [List.drop_eq_getElem_cons hi]
    simp only [L44_5, len, ilt_t (show (i : Int) < ((s.length : Nat) : Int) by omega), ile_t (show (0 : Int) ≤ (i : Int) by omega), cond_true, Int.toNat_natCast, List.getElem?_eq_getElem hi, Option.bind_some, w, hexR_spec, okd_if, allD,
      List.length_singleton, List.length_cons, List.length_nil, roomle (show (acc.length + (0 + 1)) * 9 ≤ 1000000 by omega), ih, List.map_cons, List.append_assoc, List.singleton_append]
    cases okd k s[i] <;> rfl
theorem rev_loop (l : List Int) (hs : l.length ≤ 100000) : ∀ (i n : Nat) (acc : List Int), i ≤ l.length → acc.length + i ≤ 100000 → i + 1 ≤ n →
    L30_8 n l acc ((i : Int) - 1) = some ((acc ++ (l.take i).reverse, ()), ()) := by
  intro i
  induction i with
  | zero =>
    intro n acc h hl hn
    obtain ⟨n, rfl⟩ : ∃ k, n = k + 1 := ⟨n - 1, by omega⟩
    simp only [L30_8, ile_f (show ((0 : Nat) : Int) - 1 < 0 by omega), cond_false, List.take_zero, List.reverse_nil, List.append_nil]
  | succ i ih =>
    intro n acc h hl hn
    obtain ⟨n, rfl⟩ : ∃ k, n = k + 1 := ⟨n - 1, by omega⟩
    have hi : i < l.length := by omega
    have e : ((i + 1 : Nat) : Int) - 1 = (i : Int) := by omega
    have w : IntKind.wrap .i64 ((i : Int) - 1) = (i : Int) - 1 := by rw [wrap_id] <;> omega
    rw [e, rev_take l i hi]
    simp only [L30_8, len, ile_t (show (0 : Int) ≤ (i : Int) by omega), ilt_t (show (i : Int) < ((l.length : Nat) : Int) by omega), Bool.and_self, cond_true, Int.toNat_natCast, List.getElem?_eq_getElem hi, Option.bind_some, w, List.length_singleton, List.length_cons, List.length_nil, roomle (show (acc.length + (0 + 1)) * 9 ≤ 1000000 by omega)]
    rw [ih n _ (by omega) (by simp; omega) (by omega), List.append_assoc]
    rfl
def un (l : List Int) : List Int := bif l.isEmpty then [0] else l
theorem un_dg {l : List Int} (h : Dg l) : Dg (un l) := by
  unfold un
  cases l.isEmpty with
  | true => exact Dg.cons (by omega) Dg.nil
  | false => exact h
theorem un_len (l : List Int) : (un l).length ≤ l.length + 1 := by
  unfold un
  cases l.isEmpty <;> simp
theorem un_mul (k : Int) (l : List Int) (m : Int) (hm : 0 ≤ m ∧ m ≤ 15) : (bif (mul k (un l) m).isEmpty then [0] else mul k (un l) m) = un (mul k l m) := by
  cases l with
  | cons x r => rfl
  | nil =>
    show (bif (mul k [0] m).isEmpty then [0] else mul k [0] m) = un (mul k [] m)
    have e1 : mul k [0] m = (m % 10) :: carry (m / 10) := by
      unfold mul; simp only [mulA, Int.zero_mul, Int.add_zero]; rfl
    have e2 : mul k [] m = carry m := rfl
    rw [e1, e2]
    show (m % 10) :: carry (m / 10) = un (carry m)
    unfold carry
    by_cases h0 : m = 0
    · subst h0; rfl
    by_cases h1 : m < 10
    · rw [if_neg h0, if_pos h1, if_pos (show m / 10 = 0 by omega)]; rfl
    · rw [if_neg h0, if_neg h1, if_neg (show ¬ m / 10 = 0 by omega), if_pos (show m / 10 < 10 by omega)]; rfl
theorem plR (k : Int) (hk : 0 ≤ k ∧ k ≤ 16) (s : List UInt8) (ha : allD k s = true) (hs : s.length ≤ 20000) : ∀ (d i n : Nat) (l : List Int), i + d = s.length → Dg l → l.length + 2 * d ≤ 40000 → 3 * d + l.length + 6 ≤ n →
    L30_13 n k (s.map hv) (un l) (i : Int) = some ((un (fold k l (s.drop i)), ()), ()) := by
  intro d
  induction d with
  | zero =>
    intro i n l h hl hb hn
    obtain ⟨n, rfl⟩ : ∃ k, n = k + 1 := ⟨n - 1, by omega⟩
    simp only [L30_13, len, List.length_map, ilt_f (show ((s.length : Nat) : Int) ≤ (i : Int) by omega), cond_false, List.drop_eq_nil_of_le (show s.length ≤ i by omega)]
    rfl
  | succ d ih =>
    intro i n l h hl hb hn
    obtain ⟨n, rfl⟩ : ∃ k, n = k + 1 := ⟨n - 1, by omega⟩
    have hi : i < s.length := by omega
    have hi2 : i < (s.map hv).length := by rw [List.length_map]; exact hi
    have w : IntKind.wrap .i64 ((i : Int) + 1) = ((i + 1 : Nat) : Int) := by rw [wrap_id] <;> omega
    have hm := okd_le hk.2 (allD_mem ha s[i] (List.getElem_mem hi))
    obtain ⟨m1, m2⟩ := mul_ok k hk l (hv s[i]) hl hm
    have hu := un_len l
    rw [List.drop_eq_getElem_cons hi]
    simp only [L30_13, len, List.length_map, ilt_t (show (i : Int) < ((s.length : Nat) : Int) by omega), ile_t (show (0 : Int) ≤ (i : Int) by omega), Bool.and_self, cond_true, Int.toNat_natCast, List.getElem?_eq_getElem hi2, List.getElem_map, Option.bind_some, w]
    rw [timesR_spec (n + 1) (un l) k (hv s[i]) hk (un_dg hl) hm (by omega) (by omega), un_mul k l _ hm]
    simp only [Option.bind_some]
    rw [ih (i + 1) n (mul k l (hv s[i])) (by omega) m1 (by omega) (by omega)]
    rfl
theorem tx_un (l : List Int) : tx (un l) = tx l := by
  cases l with
  | nil => decide
  | cons x r => rfl
theorem un_ne (l : List Int) : un l ≠ [] := by
  cases l with
  | nil => simp [un]
  | cons => simp [un]
theorem plainR_spec (n : Nat) (s : List UInt8) (base : Int) (hb : base = 8 ∨ base = 10 ∨ base = 16) (hn : 20000 ≤ n) : plainR n s base = some (pl base s) := by
  have hk : 0 ≤ base ∧ base ≤ 16 := by omega
  unfold plainR pl
  rw [bad s base hb]
  cases he : s.isEmpty with
  | true => rfl
  | false =>
    by_cases hl : s.length ≤ 5000
    · rw [ilt_f (show len s ≤ 5000 by unfold len; omega)]
      simp only [Bool.false_or, Option.bind_some, cond_false]
      have := dgo base s (by omega) s.length 0 n [] (by omega) rfl (by omega)
      rw [List.drop_zero, List.nil_append] at this
      rw [show (0 : Int) = ((0 : Nat) : Int) from rfl, this]
      cases ha : allD base s with
      | false => rfl
      | true =>
        have hne : (s.map hv).isEmpty = false := by
          cases s with
          | nil => cases he
          | cons => rfl
        simp only [Option.bind_some, cond_true, Bool.not_true, cond_false, hne, Bool.false_eq_true, if_false]
        by_cases h10 : base = 10
        · subst h10
          have e10 : ((10 : Int) == 10) = true := by decide
          have w : IntKind.wrap .i64 (((s.map hv).length : Int) - 1) = ((s.map hv).length : Int) - 1 := by rw [List.length_map, wrap_id] <;> omega
          simp only [e10, cond_true, len, w]
          rw [rev_loop (s.map hv) (by simp; omega) (s.map hv).length (n + 2) [] (Nat.le_refl _) (by simp; omega) (by simp; omega), List.take_length, List.nil_append, ← List.map_reverse]
          simp only [Option.bind_some]
          rw [writtenR_spec n _ (map_dg s ha) (by intro h; cases s with
            | nil => cases he
            | cons => simp at h) (by simp; omega) (by simp; omega)]
          rfl
        · have e10 : (base == 10) = false := beq_eq_false_iff_ne.2 h10
          have := plR base hk s ha (by omega) s.length 0 n [] (by omega) Dg.nil (by simp; omega) (by simp; omega)
          rw [List.drop_zero] at this
          obtain ⟨f1, f2⟩ := fold_ok base hk s [] Dg.nil ha
          rw [List.length_nil] at f2
          have hu := un_len (fold base [] s)
          simp only [e10, cond_false]
          show Option.bind (L30_13 n base (s.map hv) (un []) ((0 : Nat) : Int)) _ = _
          rw [this]
          simp only [Option.bind_some]
          rw [writtenR_spec n _ (un_dg f1) (un_ne _) (by omega) (by omega), tx_un]
          rfl
    · rw [ilt_t (show 5000 < len s by unfold len; omega)]
      rfl
end Go.Proofs.YtpobfjjmnemioaaDoor
#print axioms Go.Proofs.YtpobfjjmnemioaaDoor.plainR_spec

/- Law 5: whole numbers. -/
namespace Go.Proofs.YtpobfjjmnemioaaDoor
open Go Go.Iv Go.Gv
set_option linter.unusedSimpArgs false
set_option linter.unusedVariables false

theorem tx_form (l : List Int) : tx l = [48] ∨ ∃ x r, tx l = x :: r ∧ (x == 48) = false := by
  unfold tx
  cases h : tl (l.reverse.map ch) with
  | nil => exact .inl rfl
  | cons x r => exact .inr ⟨x, r, rfl, tl_head _ x r h⟩
theorem pl_form (base : Int) (t : List UInt8) (h : (pl base t).2.1 = true) : (pl base t).1 = [48] ∨ ∃ x r, (pl base t).1 = x :: r ∧ (x == 48) = false := by
  unfold pl at h ⊢
  cases hb : (t.isEmpty || (ilt 5000 (len t) || !allD base t)) with
  | true => rw [hb] at h; cases h
  | false => exact tx_form _
theorem tx_len (l : List Int) : (tx l).length ≤ l.length + 1 := by
  unfold tx
  have := tl_len (l.reverse.map ch)
  rw [List.length_map, List.length_reverse] at this
  cases (tl (l.reverse.map ch)).isEmpty with
  | true => simp
  | false => simp only [cond_false]; omega
theorem pl_len (base : Int) (hk : 0 ≤ base ∧ base ≤ 16) (t : List UInt8) : (pl base t).1.length ≤ 10001 := by
  unfold pl
  cases hb : (t.isEmpty || (ilt 5000 (len t) || !allD base t)) with
  | true => simp
  | false =>
    simp only [Bool.or_eq_false_iff, Bool.not_eq_false'] at hb
    obtain ⟨_, h2, h3⟩ := hb
    rw [ilt_eq] at h2
    have h2 := of_decide_eq_false h2
    unfold len at h2
    simp only [cond_false]
    refine Nat.le_trans (tx_len _) ?_
    cases base == 10 with
    | true => simp only [cond_true, List.length_map, List.length_reverse]; omega
    | false =>
      have := (fold_ok base hk t [] Dg.nil h3).2
      simp only [cond_false, List.length_nil] at this ⊢; omega

def no : Num × (Bool × Unit) := ((false, ([], (0, 0))), (false, ()))
def fin (b : Bool) (p : List UInt8 × (Bool × Unit)) : Num × (Bool × Unit) :=
  bif p.2.1 then (norm (b && !(p.1 == [48])) p.1 0, (true, ())) else no
theorem tl_id (x : UInt8) (r : List UInt8) (h : (x == 48) = false) : tl (x :: r) = x :: r := by
  unfold tl; rw [List.dropWhile, h]
theorem trimR_id (x : UInt8) (r : List UInt8) (h : (x == 48) = false) : ∃ q, trimR (x :: r) = x :: q := by
  have hn := trimR_cons x r h
  have hp : trimR (x :: r) <+: x :: r := by
    have := (List.dropWhile_suffix (· == (48 : UInt8)) (l := (x :: r).reverse))
    have := List.reverse_prefix.2 this
    rw [List.reverse_reverse] at this
    exact this
  obtain ⟨q, hq⟩ := hp
  cases ht : trimR (x :: r) with
  | nil => rw [ht] at hn; cases hn
  | cons y z =>
    rw [ht] at hq
    injection hq with h1 h2
    exact ⟨z, by rw [h1]⟩
theorem fin_prog (n : Nat) (b : Bool) (base : Int) (hb : 0 ≤ base ∧ base ≤ 16) (t : List UInt8) (hn : 20000 ≤ n) :
    (bif !(pl base t).2.1 then some no else
      Option.bind (whole (n + 1) b (pl base t).1 0) fun y8 =>
      bif y8.1.1 then
        some (((!(y8.1.2.1 == ([(48 : UInt8)] : List UInt8))), (y8.1.2.1, (y8.1.2.2.1, y8.1.2.2.2))), Bool.true, ())
      else
      some ((Bool.false, (y8.1.2.1, (y8.1.2.2.1, y8.1.2.2.2))), Bool.true, ())) = some (fin b (pl base t)) := by
  have hl := pl_len base hb t
  rw [whole_spec (n + 1) b _ 0 (by omega) (by omega) (by omega) (by omega)]
  unfold fin
  cases h : (pl base t).2.1 with
  | false => rfl
  | true =>
    simp only [Bool.not_true, cond_false, cond_true, Option.bind_some]
    rcases pl_form base t h with hf | ⟨x, r, hf, hx⟩
    · rw [hf]; cases b <;> rfl
    · obtain ⟨q, hq⟩ := trimR_id x r hx
      have e1 : ((x :: r) == ([48] : List UInt8)) = false := by show ((x == 48) && _) = false; rw [hx]; rfl
      have e2 : ((x :: q) == ([48] : List UInt8)) = false := by show ((x == 48) && _) = false; rw [hx]; rfl
      rw [hf, e1]
      unfold norm
      rw [tl_id x r hx, hq]
      simp only [List.isEmpty_cons, cond_false, e2, Bool.not_false, Bool.and_true]
      cases b <;> rfl
theorem fin_ref (n : Nat) (b : Bool) (base : Int) (hb : 0 ≤ base ∧ base ≤ 16) (t : List UInt8) (hn : 20000 ≤ n) :
    (bif !(pl base t).2.1 then some no else
      bif b then
        Option.bind (tidyR (n + 1) (!((pl base t).1 == ([(48 : UInt8)] : List UInt8))) (pl base t).1 (0 : Int)) fun y14 =>
        some ((y14.1.1, (y14.1.2.1, (y14.1.2.2.1, y14.1.2.2.2))), Bool.true, ())
      else
      Option.bind (tidyR (n + 1) Bool.false (pl base t).1 (0 : Int)) fun y15 =>
      some ((y15.1.1, (y15.1.2.1, (y15.1.2.2.1, y15.1.2.2.2))), Bool.true, ())) = some (fin b (pl base t)) := by
  have hl := pl_len base hb t
  rw [tidyR_spec (n + 1) _ _ 0 (by omega) (by omega) (by omega) (by omega), tidyR_spec (n + 1) _ _ 0 (by omega) (by omega) (by omega) (by omega)]
  unfold fin
  cases h : (pl base t).2.1 with
  | false => rfl
  | true => cases b <;> rfl

def iv (s : List UInt8) : Num × (Bool × Unit) :=
  bif pre [48, 111] s then fin false (pl 8 (s.drop 2)) else bif pre [48, 120] s then fin false (pl 16 (s.drop 2)) else fin (sgn s).2 (pl 10 (sgn s).1)
theorem int_spec (n : Nat) (s : List UInt8) (hn : 20000 ≤ n) : int n s = some (iv s) := by
  unfold int iv
  rw [cutPrefix_spec, cutPrefix_spec, signed_spec]
  simp only [Option.bind_some]
  cases h1 : pre [48, 111] s with
  | true =>
    simp only [cond_true]
    rw [plain_spec n _ 8 (by omega) hn]
    exact fin_prog n false 8 (by omega) (s.drop 2) hn
  | false =>
    simp only [cond_false]
    cases h2 : pre [48, 120] s with
    | true =>
      simp only [cond_true]
      rw [plain_spec n _ 16 (by omega) hn]
      exact fin_prog n false 16 (by omega) (s.drop 2) hn
    | false =>
      simp only [cond_false]
      rw [plain_spec n _ 10 (by omega) hn]
      exact fin_prog n (sgn s).2 10 (by omega) (sgn s).1 hn
theorem pre_not (s : List UInt8) (h : pre [48, 111] s = true) : pre [48, 120] s = false := by
  match s, h with
  | [], h => cases h
  | [x], h => simp [pre] at h
  | x :: y :: r, h =>
    simp only [pre, Bool.and_true, Bool.and_eq_true, beq_iff_eq] at h ⊢
    rw [h.2]; simp
theorem pre_sgn (c : UInt8) (s : List UInt8) (h : pre [48, c] s = true) : (sgn s).2 = false ∧ 2 ≤ s.length := by
  match s, h with
  | [], h => cases h
  | [x], h => simp [pre] at h
  | x :: y :: r, h =>
    simp only [pre, Bool.and_true, Bool.and_eq_true, beq_iff_eq] at h
    rw [h.1]
    exact ⟨rfl, by simp⟩
theorem intR_spec (n : Nat) (s : List UInt8) (hn : 20000 ≤ n) : intR n s = some (iv s) := by
  unfold intR iv
  rw [signedR_spec, beginsR_spec, beginsR_spec]
  simp only [Option.bind_some, take_all]
  cases h1 : pre [48, 111] s with
  | true =>
    obtain ⟨k1, k2⟩ := pre_sgn _ s h1
    simp only [cond_true, pre_not s h1, cond_false, ile_t (show (2 : Int) ≤ len s by unfold len; omega)]
    rw [plainR_spec n _ 8 (by omega) hn, k1]
    exact fin_ref n false 8 (by omega) (s.drop 2) hn
  | false =>
    simp only [cond_false]
    cases h2 : pre [48, 120] s with
    | true =>
      obtain ⟨k1, k2⟩ := pre_sgn _ s h2
      simp only [cond_true, ile_t (show (2 : Int) ≤ len s by unfold len; omega)]
      rw [plainR_spec n _ 16 (by omega) hn, k1]
      exact fin_ref n false 16 (by omega) (s.drop 2) hn
    | false =>
      simp only [cond_false]
      rw [plainR_spec n _ 10 (by omega) hn]
      exact fin_ref n (sgn s).2 10 (by omega) (sgn s).1 hn
end Go.Proofs.YtpobfjjmnemioaaDoor
#print axioms Go.Proofs.YtpobfjjmnemioaaDoor.intR_spec

/- Plain functions for the program's. -/
namespace Go.Proofs.YtpobfjjmnemioaaDoor
open Go Go.Iv Go.Gv
set_option maxRecDepth 100000
noncomputable def L48_10_Xexit0 : Tm := ⟨[(5, .one (.str)), (6, .one (.int .i64))], [], 64, 64, 1000⟩
noncomputable def L48_10_T : Tm := ⟨[(5, .one (.str)), (6, .one (.int .i64)), (47, .one (.lst .byte)), (48, .one (.int .i64)), (49, .one (.int .i64))], [], 64, 64, 1000⟩
noncomputable def L48_10 : Nat → (List UInt8) → Int → (List UInt8) → Int → Int → Option (((List UInt8) × (Int × Unit)) × Unit)
  | 0, _, _, _, _, _ => none
  | n + 1, t5, t6, t47, t48, t49 =>
    bif (Go.Iv.ilt t49 t48) then
      bif (Go.Iv.ile (0 : Int) t49) then
      Option.bind (t47[(Int.toNat t49)]?) fun x14 =>
      bif (Nat.blt (UInt8.toNat (9 : UInt8)) (UInt8.toNat (x14 - (48 : UInt8)))) then
        none
      else
      L48_10 n t5 (Go.IntKind.wrap Go.IntKind.i64 ((Go.IntKind.wrap Go.IntKind.i64 (t6 * (10 : Int))) + (Go.IntKind.wrap Go.IntKind.i64 (ub (x14 - (48 : UInt8)))))) t47 t48 (Go.IntKind.wrap Go.IntKind.i64 (t49 + (1 : Int)))
      else none
    else
    some ((t5, (t6, ())), ())
noncomputable def L48_10_it : LoopIt := ⟨48, 10, none, L48_10_T, [(.exit 0, L48_10_Xexit0)], 0, fun n x => L48_10 n x.1.1 x.1.2.1 x.1.2.2.1 x.1.2.2.2.1 x.1.2.2.2.2.1⟩
theorem L48_10_Xexit0_ok : L48_10_Xexit0.ok Go.Proofs.Tryd.prog hint := by
  intro p hp
  cases hp
theorem L48_10_T_ok : L48_10_T.ok Go.Proofs.Tryd.prog hint := by
  intro p hp
  cases hp
theorem L48_10_ok : ∀ n, LoopOK Go.Proofs.Tryd.prog hint shT L48_10_it n :=
  LoopOK.of (hk := fun β => (Known.mk [] []).hk β) (sh := shT) (OneLoop.of (by kernel_rfl)) L48_10_T_ok ⟨⟨L48_10_Xexit0_ok, Nat.le_refl _, Nat.le_refl _⟩, trivial⟩ (fun m => KnownOK.hook KnownOK.nil m)
    (fun _ => by kernel_rfl) (fun m x => by kernel_rfl)

noncomputable def L77_36_Xexit3 : Tm := ⟨[(9, .one (.str)), (12, .one (.bool)), (13, .one (.int .u64))], [], 64, 64, 1000⟩
noncomputable def L77_36_T : Tm := ⟨[(1, .one (.int .i64)), (8, .one (.bool)), (9, .one (.str)), (10, .one (.int .u64)), (11, .one (.int .u64)), (12, .one (.bool)), (13, .one (.int .u64)), (99, .one (.lst .byte)), (100, .one (.int .i64)), (101, .one (.int .i64))], [], 64, 64, 1000⟩
noncomputable def L77_36 : Nat → Int → Bool → (List UInt8) → Int → Int → Bool → Int → (List UInt8) → Int → Int → Option (((List UInt8) × (Bool × (Int × Unit))) × Unit)
  | 0, _, _, _, _, _, _, _, _, _, _ => none
  | n + 1, t1, t8, t9, t10, t11, t12, t13, t99, t100, t101 =>
    bif (Go.Iv.ilt t101 t100) then
      bif (Go.Iv.ile (0 : Int) t101) then
      Option.bind (t99[(Int.toNat t101)]?) fun x39 =>
      Option.bind (bif (x39 == (95 : UInt8)) then
          some t8
        else
        some Bool.false) fun b41 =>
      bif b41 then
        L77_36 n t1 t8 t9 t10 t11 Bool.true t13 t99 t100 (Go.IntKind.wrap Go.IntKind.i64 (t101 + (1 : Int)))
      else
      Option.bind (bif (Nat.ble (UInt8.toNat (48 : UInt8)) (UInt8.toNat x39)) then
          some (Nat.ble (UInt8.toNat x39) (UInt8.toNat (57 : UInt8)))
        else
        some Bool.false) fun b43 =>
      bif b43 then
        bif (Nat.ble (UInt8.toNat (UInt8.ofNat (Int.toNat (Go.IntKind.wrap Go.IntKind.u8 t1)))) (UInt8.toNat (x39 - (48 : UInt8)))) then
          none
        else
        bif (Go.Iv.ile t10 t13) then
          none
        else
        Option.bind (bif (Go.Iv.ilt (Go.IntKind.wrap Go.IntKind.u64 ((Go.IntKind.wrap Go.IntKind.u64 (t13 * (Go.IntKind.wrap Go.IntKind.u64 t1))) + (Go.IntKind.wrap Go.IntKind.u64 (ub (x39 - (48 : UInt8)))))) (Go.IntKind.wrap Go.IntKind.u64 (t13 * (Go.IntKind.wrap Go.IntKind.u64 t1)))) then
            some Bool.true
          else
          some (Go.Iv.ilt t11 (Go.IntKind.wrap Go.IntKind.u64 ((Go.IntKind.wrap Go.IntKind.u64 (t13 * (Go.IntKind.wrap Go.IntKind.u64 t1))) + (Go.IntKind.wrap Go.IntKind.u64 (ub (x39 - (48 : UInt8)))))))) fun b45 =>
        bif b45 then
          none
        else
        L77_36 n t1 t8 t9 t10 t11 t12 (Go.IntKind.wrap Go.IntKind.u64 ((Go.IntKind.wrap Go.IntKind.u64 (t13 * (Go.IntKind.wrap Go.IntKind.u64 t1))) + (Go.IntKind.wrap Go.IntKind.u64 (ub (x39 - (48 : UInt8)))))) t99 t100 (Go.IntKind.wrap Go.IntKind.i64 (t101 + (1 : Int)))
      else
      bif (Nat.ble (UInt8.toNat (97 : UInt8)) (UInt8.toNat (x39 ||| (32 : UInt8)))) then
        bif (Nat.ble (UInt8.toNat (x39 ||| (32 : UInt8))) (UInt8.toNat (122 : UInt8))) then
          bif (Nat.ble (UInt8.toNat (UInt8.ofNat (Int.toNat (Go.IntKind.wrap Go.IntKind.u8 t1)))) (UInt8.toNat (((x39 ||| (32 : UInt8)) - (97 : UInt8)) + (10 : UInt8)))) then
            none
          else
          bif (Go.Iv.ile t10 t13) then
            none
          else
          Option.bind (bif (Go.Iv.ilt (Go.IntKind.wrap Go.IntKind.u64 ((Go.IntKind.wrap Go.IntKind.u64 (t13 * (Go.IntKind.wrap Go.IntKind.u64 t1))) + (Go.IntKind.wrap Go.IntKind.u64 (ub (((x39 ||| (32 : UInt8)) - (97 : UInt8)) + (10 : UInt8)))))) (Go.IntKind.wrap Go.IntKind.u64 (t13 * (Go.IntKind.wrap Go.IntKind.u64 t1)))) then
              some Bool.true
            else
            some (Go.Iv.ilt t11 (Go.IntKind.wrap Go.IntKind.u64 ((Go.IntKind.wrap Go.IntKind.u64 (t13 * (Go.IntKind.wrap Go.IntKind.u64 t1))) + (Go.IntKind.wrap Go.IntKind.u64 (ub (((x39 ||| (32 : UInt8)) - (97 : UInt8)) + (10 : UInt8)))))))) fun b47 =>
          bif b47 then
            none
          else
          L77_36 n t1 t8 t9 t10 t11 t12 (Go.IntKind.wrap Go.IntKind.u64 ((Go.IntKind.wrap Go.IntKind.u64 (t13 * (Go.IntKind.wrap Go.IntKind.u64 t1))) + (Go.IntKind.wrap Go.IntKind.u64 (ub (((x39 ||| (32 : UInt8)) - (97 : UInt8)) + (10 : UInt8)))))) t99 t100 (Go.IntKind.wrap Go.IntKind.i64 (t101 + (1 : Int)))
        else
        none
      else
      none
      else none
    else
    some ((t9, (t12, (t13, ()))), ())
noncomputable def L77_36_it : LoopIt := ⟨77, 36, none, L77_36_T, [(.exit 3, L77_36_Xexit3)], 1, fun n x => L77_36 n x.1.1 x.1.2.1 x.1.2.2.1 x.1.2.2.2.1 x.1.2.2.2.2.1 x.1.2.2.2.2.2.1 x.1.2.2.2.2.2.2.1 x.1.2.2.2.2.2.2.2.1 x.1.2.2.2.2.2.2.2.2.1 x.1.2.2.2.2.2.2.2.2.2.1⟩
theorem L77_36_Xexit3_ok : L77_36_Xexit3.ok Go.Proofs.Tryd.prog hint := by
  intro p hp
  cases hp
theorem L77_36_T_ok : L77_36_T.ok Go.Proofs.Tryd.prog hint := by
  intro p hp
  cases hp
theorem L77_36_ok : ∀ n, LoopOK Go.Proofs.Tryd.prog hint shT L77_36_it n :=
  LoopOK.of (hk := fun β => (Known.mk [] []).hk β) (sh := shT) (OneLoop.of (by kernel_rfl)) L77_36_T_ok ⟨⟨L77_36_Xexit3_ok, Nat.le_refl _, Nat.le_refl _⟩, trivial⟩ (fun m => KnownOK.hook KnownOK.nil m)
    (fun _ => by kernel_rfl) (fun m x => by kernel_rfl)

noncomputable def L90_10_Xexit0 : Tm := ⟨[(3, .one (.int .i32))], [], 64, 64, 2001⟩
noncomputable def L90_10_Xret : Tm := ⟨[(2, .one (.bool))], [], 64, 64, 2001⟩
noncomputable def L90_10_T : Tm := ⟨[(0, .one (.str)), (3, .one (.int .i32)), (4, .one (.int .i64)), (5, .one (.bool))], [], 64, 64, 2001⟩
noncomputable def L90_10 : Nat → (List UInt8) → Int → Int → Bool → Option (((Int × Unit) × Unit) ⊕ ((Bool × Unit) × Unit))
  | 0, _, _, _, _ => none
  | n + 1, t0, t3, t4, t5 =>
    bif (Go.Iv.ilt t4 (len t0)) then
      bif (Go.Iv.ile (0 : Int) t4) then
      Option.bind (t0[(Int.toNat t4)]?) fun x80 =>
      bif (Nat.ble (UInt8.toNat (48 : UInt8)) (UInt8.toNat x80)) then
        bif (Go.Iv.ile (0 : Int) t4) then
        Option.bind (t0[(Int.toNat t4)]?) fun x81 =>
        bif (Nat.ble (UInt8.toNat x81) (UInt8.toNat (57 : UInt8))) then
          L90_10 n t0 (48 : Int) (Go.IntKind.wrap Go.IntKind.i64 (t4 + (1 : Int))) t5
        else
        bif t5 then
          bif (Go.Iv.ile (0 : Int) t4) then
          Option.bind (t0[(Int.toNat t4)]?) fun x82 =>
          bif (Nat.ble (UInt8.toNat (97 : UInt8)) (UInt8.toNat (x82 ||| (32 : UInt8)))) then
            bif (Go.Iv.ile (0 : Int) t4) then
            Option.bind (t0[(Int.toNat t4)]?) fun x83 =>
            bif (Nat.ble (UInt8.toNat (x83 ||| (32 : UInt8))) (UInt8.toNat (102 : UInt8))) then
              L90_10 n t0 (48 : Int) (Go.IntKind.wrap Go.IntKind.i64 (t4 + (1 : Int))) t5
            else
            bif (Go.Iv.ile (0 : Int) t4) then
            Option.bind (t0[(Int.toNat t4)]?) fun x84 =>
            bif (x84 == (95 : UInt8)) then
              bif (t3 != (48 : Int)) then
                some (.inr ((Bool.false, ()), ()))
              else
              L90_10 n t0 (95 : Int) (Go.IntKind.wrap Go.IntKind.i64 (t4 + (1 : Int))) t5
            else
            bif (t3 == (95 : Int)) then
              some (.inr ((Bool.false, ()), ()))
            else
            L90_10 n t0 (33 : Int) (Go.IntKind.wrap Go.IntKind.i64 (t4 + (1 : Int))) t5
            else none
            else none
          else
          bif (Go.Iv.ile (0 : Int) t4) then
          Option.bind (t0[(Int.toNat t4)]?) fun x85 =>
          bif (x85 == (95 : UInt8)) then
            bif (t3 != (48 : Int)) then
              some (.inr ((Bool.false, ()), ()))
            else
            L90_10 n t0 (95 : Int) (Go.IntKind.wrap Go.IntKind.i64 (t4 + (1 : Int))) t5
          else
          bif (t3 == (95 : Int)) then
            some (.inr ((Bool.false, ()), ()))
          else
          L90_10 n t0 (33 : Int) (Go.IntKind.wrap Go.IntKind.i64 (t4 + (1 : Int))) t5
          else none
          else none
        else
        bif (Go.Iv.ile (0 : Int) t4) then
        Option.bind (t0[(Int.toNat t4)]?) fun x86 =>
        bif (x86 == (95 : UInt8)) then
          bif (t3 != (48 : Int)) then
            some (.inr ((Bool.false, ()), ()))
          else
          L90_10 n t0 (95 : Int) (Go.IntKind.wrap Go.IntKind.i64 (t4 + (1 : Int))) t5
        else
        bif (t3 == (95 : Int)) then
          some (.inr ((Bool.false, ()), ()))
        else
        L90_10 n t0 (33 : Int) (Go.IntKind.wrap Go.IntKind.i64 (t4 + (1 : Int))) t5
        else none
        else none
      else
      bif t5 then
        bif (Go.Iv.ile (0 : Int) t4) then
        Option.bind (t0[(Int.toNat t4)]?) fun x87 =>
        bif (Nat.ble (UInt8.toNat (97 : UInt8)) (UInt8.toNat (x87 ||| (32 : UInt8)))) then
          bif (Go.Iv.ile (0 : Int) t4) then
          Option.bind (t0[(Int.toNat t4)]?) fun x88 =>
          bif (Nat.ble (UInt8.toNat (x88 ||| (32 : UInt8))) (UInt8.toNat (102 : UInt8))) then
            L90_10 n t0 (48 : Int) (Go.IntKind.wrap Go.IntKind.i64 (t4 + (1 : Int))) t5
          else
          bif (Go.Iv.ile (0 : Int) t4) then
          Option.bind (t0[(Int.toNat t4)]?) fun x89 =>
          bif (x89 == (95 : UInt8)) then
            bif (t3 != (48 : Int)) then
              some (.inr ((Bool.false, ()), ()))
            else
            L90_10 n t0 (95 : Int) (Go.IntKind.wrap Go.IntKind.i64 (t4 + (1 : Int))) t5
          else
          bif (t3 == (95 : Int)) then
            some (.inr ((Bool.false, ()), ()))
          else
          L90_10 n t0 (33 : Int) (Go.IntKind.wrap Go.IntKind.i64 (t4 + (1 : Int))) t5
          else none
          else none
        else
        bif (Go.Iv.ile (0 : Int) t4) then
        Option.bind (t0[(Int.toNat t4)]?) fun x90 =>
        bif (x90 == (95 : UInt8)) then
          bif (t3 != (48 : Int)) then
            some (.inr ((Bool.false, ()), ()))
          else
          L90_10 n t0 (95 : Int) (Go.IntKind.wrap Go.IntKind.i64 (t4 + (1 : Int))) t5
        else
        bif (t3 == (95 : Int)) then
          some (.inr ((Bool.false, ()), ()))
        else
        L90_10 n t0 (33 : Int) (Go.IntKind.wrap Go.IntKind.i64 (t4 + (1 : Int))) t5
        else none
        else none
      else
      bif (Go.Iv.ile (0 : Int) t4) then
      Option.bind (t0[(Int.toNat t4)]?) fun x91 =>
      bif (x91 == (95 : UInt8)) then
        bif (t3 != (48 : Int)) then
          some (.inr ((Bool.false, ()), ()))
        else
        L90_10 n t0 (95 : Int) (Go.IntKind.wrap Go.IntKind.i64 (t4 + (1 : Int))) t5
      else
      bif (t3 == (95 : Int)) then
        some (.inr ((Bool.false, ()), ()))
      else
      L90_10 n t0 (33 : Int) (Go.IntKind.wrap Go.IntKind.i64 (t4 + (1 : Int))) t5
      else none
      else none
    else
    some (.inl ((t3, ()), ()))
noncomputable def L90_10_it : LoopIt := ⟨90, 10, none, L90_10_T, [(.exit 0, L90_10_Xexit0), (.ret, L90_10_Xret)], 1, fun n x => L90_10 n x.1.1 x.1.2.1 x.1.2.2.1 x.1.2.2.2.1⟩
theorem L90_10_Xexit0_ok : L90_10_Xexit0.ok Go.Proofs.Tryd.prog hint := by
  intro p hp
  cases hp
theorem L90_10_Xret_ok : L90_10_Xret.ok Go.Proofs.Tryd.prog hint := by
  intro p hp
  cases hp
theorem L90_10_T_ok : L90_10_T.ok Go.Proofs.Tryd.prog hint := by
  intro p hp
  cases hp
theorem L90_10_ok : ∀ n, LoopOK Go.Proofs.Tryd.prog hint shT L90_10_it n :=
  LoopOK.of (hk := fun β => (Known.mk [] []).hk β) (sh := shT) (OneLoop.of (by kernel_rfl)) L90_10_T_ok ⟨⟨L90_10_Xexit0_ok, Nat.le_refl _, Nat.le_refl _⟩, ⟨L90_10_Xret_ok, Nat.le_refl _, Nat.le_refl _⟩, trivial⟩ (fun m => KnownOK.hook KnownOK.nil m)
    (fun _ => by kernel_rfl) (fun m x => by kernel_rfl)

noncomputable def exponent (n : Nat) (s : List UInt8) : Option (Int × (Bool × Unit)) :=
  bif (s == ([] : List UInt8)) then
    some ((0 : Int), Bool.true, ())
  else
  Option.bind (Option.bind (s[0]?) fun x1 =>
    bif (x1 != (101 : UInt8)) then
      Option.bind (s[0]?) fun x2 =>
      some (x2 != (69 : UInt8))
    else
    some Bool.false) fun b3 =>
  bif b3 then
    some ((0 : Int), Bool.false, ())
  else
  bif (Go.Iv.ile (1 : Int) (len s)) then
  Option.bind (signed (n + 2) (List.take ((List.length s) - 1) (List.drop 1 s))) fun y4 =>
  bif (y4.1 == ([] : List UInt8)) then
    some ((0 : Int), Bool.false, ())
  else
  bif (Go.Iv.ilt (9 : Int) (len y4.1)) then
    some ((0 : Int), Bool.false, ())
  else
  Option.bind (count (n + 4) y4.1) fun y5 =>
  bif (y5.1 != (len y4.1)) then
    some ((0 : Int), Bool.false, ())
  else
  Option.bind (bif (Go.Iv.ilt (0 : Int) (len y4.1)) then
      some (Go.Iv.ilt (len y4.1) (19 : Int))
    else
    some Bool.false) fun b7 =>
  bif b7 then
    Option.bind (Option.bind (y4.1[0]?) fun x9 =>
      bif (x9 == (45 : UInt8)) then
        some Bool.true
      else
      Option.bind (y4.1[0]?) fun x10 =>
      some (x10 == (43 : UInt8))) fun b11 =>
    bif b11 then
      bif (Go.Iv.ile (1 : Int) (len y4.1)) then
      bif (Go.Iv.ilt (len (List.take ((List.length y4.1) - 1) (List.drop 1 y4.1))) (1 : Int)) then
        none
      else
      Option.bind (L48_10 (n + 4) y4.1 (0 : Int) (List.take ((List.length y4.1) - 1) (List.drop 1 y4.1)) (len (List.take ((List.length y4.1) - 1) (List.drop 1 y4.1))) (0 : Int)) fun y15 =>
      Option.bind (y15.1.1[0]?) fun x16 =>
      bif (x16 == (45 : UInt8)) then
        bif y4.2.1 then
          some ((Go.IntKind.wrap Go.IntKind.i64 ((0 : Int) - (Go.IntKind.wrap Go.IntKind.i64 ((0 : Int) - y15.1.2.1)))), Bool.true, ())
        else
        some ((Go.IntKind.wrap Go.IntKind.i64 ((0 : Int) - y15.1.2.1)), Bool.true, ())
      else
      bif y4.2.1 then
        some ((Go.IntKind.wrap Go.IntKind.i64 ((0 : Int) - y15.1.2.1)), Bool.true, ())
      else
      some (y15.1.2.1, Bool.true, ())
      else none
    else
    Option.bind (L48_10 (n + 4) y4.1 (0 : Int) y4.1 (len y4.1) (0 : Int)) fun y17 =>
    Option.bind (y17.1.1[0]?) fun x18 =>
    bif (x18 == (45 : UInt8)) then
      bif y4.2.1 then
        some ((Go.IntKind.wrap Go.IntKind.i64 ((0 : Int) - (Go.IntKind.wrap Go.IntKind.i64 ((0 : Int) - y17.1.2.1)))), Bool.true, ())
      else
      some ((Go.IntKind.wrap Go.IntKind.i64 ((0 : Int) - y17.1.2.1)), Bool.true, ())
    else
    bif y4.2.1 then
      some ((Go.IntKind.wrap Go.IntKind.i64 ((0 : Int) - y17.1.2.1)), Bool.true, ())
    else
    some (y17.1.2.1, Bool.true, ())
  else
  bif (y4.1 == ([] : List UInt8)) then
    none
  else
  Option.bind (y4.1[0]?) fun x19 =>
  bif (x19 == (43 : UInt8)) then
    bif (Go.Iv.ile (1 : Int) (len y4.1)) then
    bif ((List.take ((List.length y4.1) - 1) (List.drop 1 y4.1)) == ([] : List UInt8)) then
      none
    else
    Option.bind (L77_36 (n + 1) (10 : Int) Bool.false (List.take ((List.length y4.1) - 1) (List.drop 1 y4.1)) (1844674407370955162 : Int) (18446744073709551615 : Int) Bool.false (0 : Int) (List.take ((List.length y4.1) - 1) (List.drop 1 y4.1)) (len (List.take ((List.length y4.1) - 1) (List.drop 1 y4.1))) (0 : Int)) fun y48 =>
    bif y48.1.2.1 then
      Option.bind (bif (Go.Iv.ile (1 : Int) (len y48.1.1)) then
          Option.bind (y48.1.1[0]?) fun x50 =>
          bif (x50 == (45 : UInt8)) then
            some Bool.true
          else
          Option.bind (y48.1.1[0]?) fun x51 =>
          some (x51 == (43 : UInt8))
        else
        some Bool.false) fun b52 =>
      bif b52 then
        bif (Go.Iv.ile (1 : Int) (len y48.1.1)) then
        bif (Go.Iv.ile (2 : Int) (len (List.take ((List.length y48.1.1) - 1) (List.drop 1 y48.1.1)))) then
          Option.bind ((List.take ((List.length y48.1.1) - 1) (List.drop 1 y48.1.1))[0]?) fun x53 =>
          bif (x53 == (48 : UInt8)) then
            Option.bind ((List.take ((List.length y48.1.1) - 1) (List.drop 1 y48.1.1))[1]?) fun x54 =>
            bif ((x54 ||| (32 : UInt8)) == (98 : UInt8)) then
              Option.bind ((List.take ((List.length y48.1.1) - 1) (List.drop 1 y48.1.1))[1]?) fun x55 =>
              Option.bind (L90_10 n (List.take ((List.length y48.1.1) - 1) (List.drop 1 y48.1.1)) (48 : Int) (2 : Int) ((x55 ||| (32 : UInt8)) == (120 : UInt8))) fun y92 =>
              match y92 with
                | .inl y93 =>
                  bif (!(y93.1.1 != (95 : Int))) then
                    none
                  else
                  bif (Go.Iv.ile (9223372036854775808 : Int) y48.1.2.2.1) then
                    none
                  else
                  bif y4.2.1 then
                    some ((Go.IntKind.wrap Go.IntKind.i64 ((0 : Int) - (Go.IntKind.wrap Go.IntKind.i64 y48.1.2.2.1))), Bool.true, ())
                  else
                  some ((Go.IntKind.wrap Go.IntKind.i64 y48.1.2.2.1), Bool.true, ())
                | .inr y94 =>
                  bif (!y94.1.1) then
                    none
                  else
                  bif (Go.Iv.ile (9223372036854775808 : Int) y48.1.2.2.1) then
                    none
                  else
                  bif y4.2.1 then
                    some ((Go.IntKind.wrap Go.IntKind.i64 ((0 : Int) - (Go.IntKind.wrap Go.IntKind.i64 y48.1.2.2.1))), Bool.true, ())
                  else
                  some ((Go.IntKind.wrap Go.IntKind.i64 y48.1.2.2.1), Bool.true, ())
            else
            Option.bind ((List.take ((List.length y48.1.1) - 1) (List.drop 1 y48.1.1))[1]?) fun x99 =>
            bif ((x99 ||| (32 : UInt8)) == (111 : UInt8)) then
              Option.bind ((List.take ((List.length y48.1.1) - 1) (List.drop 1 y48.1.1))[1]?) fun x100 =>
              Option.bind (L90_10 n (List.take ((List.length y48.1.1) - 1) (List.drop 1 y48.1.1)) (48 : Int) (2 : Int) ((x100 ||| (32 : UInt8)) == (120 : UInt8))) fun y101 =>
              match y101 with
                | .inl y102 =>
                  bif (!(y102.1.1 != (95 : Int))) then
                    none
                  else
                  bif (Go.Iv.ile (9223372036854775808 : Int) y48.1.2.2.1) then
                    none
                  else
                  bif y4.2.1 then
                    some ((Go.IntKind.wrap Go.IntKind.i64 ((0 : Int) - (Go.IntKind.wrap Go.IntKind.i64 y48.1.2.2.1))), Bool.true, ())
                  else
                  some ((Go.IntKind.wrap Go.IntKind.i64 y48.1.2.2.1), Bool.true, ())
                | .inr y103 =>
                  bif (!y103.1.1) then
                    none
                  else
                  bif (Go.Iv.ile (9223372036854775808 : Int) y48.1.2.2.1) then
                    none
                  else
                  bif y4.2.1 then
                    some ((Go.IntKind.wrap Go.IntKind.i64 ((0 : Int) - (Go.IntKind.wrap Go.IntKind.i64 y48.1.2.2.1))), Bool.true, ())
                  else
                  some ((Go.IntKind.wrap Go.IntKind.i64 y48.1.2.2.1), Bool.true, ())
            else
            Option.bind ((List.take ((List.length y48.1.1) - 1) (List.drop 1 y48.1.1))[1]?) fun x108 =>
            bif ((x108 ||| (32 : UInt8)) == (120 : UInt8)) then
              Option.bind ((List.take ((List.length y48.1.1) - 1) (List.drop 1 y48.1.1))[1]?) fun x109 =>
              Option.bind (L90_10 n (List.take ((List.length y48.1.1) - 1) (List.drop 1 y48.1.1)) (48 : Int) (2 : Int) ((x109 ||| (32 : UInt8)) == (120 : UInt8))) fun y110 =>
              match y110 with
                | .inl y111 =>
                  bif (!(y111.1.1 != (95 : Int))) then
                    none
                  else
                  bif (Go.Iv.ile (9223372036854775808 : Int) y48.1.2.2.1) then
                    none
                  else
                  bif y4.2.1 then
                    some ((Go.IntKind.wrap Go.IntKind.i64 ((0 : Int) - (Go.IntKind.wrap Go.IntKind.i64 y48.1.2.2.1))), Bool.true, ())
                  else
                  some ((Go.IntKind.wrap Go.IntKind.i64 y48.1.2.2.1), Bool.true, ())
                | .inr y112 =>
                  bif (!y112.1.1) then
                    none
                  else
                  bif (Go.Iv.ile (9223372036854775808 : Int) y48.1.2.2.1) then
                    none
                  else
                  bif y4.2.1 then
                    some ((Go.IntKind.wrap Go.IntKind.i64 ((0 : Int) - (Go.IntKind.wrap Go.IntKind.i64 y48.1.2.2.1))), Bool.true, ())
                  else
                  some ((Go.IntKind.wrap Go.IntKind.i64 y48.1.2.2.1), Bool.true, ())
            else
            Option.bind (L90_10 n (List.take ((List.length y48.1.1) - 1) (List.drop 1 y48.1.1)) (94 : Int) (0 : Int) Bool.false) fun y117 =>
            match y117 with
              | .inl y118 =>
                bif (!(y118.1.1 != (95 : Int))) then
                  none
                else
                bif (Go.Iv.ile (9223372036854775808 : Int) y48.1.2.2.1) then
                  none
                else
                bif y4.2.1 then
                  some ((Go.IntKind.wrap Go.IntKind.i64 ((0 : Int) - (Go.IntKind.wrap Go.IntKind.i64 y48.1.2.2.1))), Bool.true, ())
                else
                some ((Go.IntKind.wrap Go.IntKind.i64 y48.1.2.2.1), Bool.true, ())
              | .inr y119 =>
                bif (!y119.1.1) then
                  none
                else
                bif (Go.Iv.ile (9223372036854775808 : Int) y48.1.2.2.1) then
                  none
                else
                bif y4.2.1 then
                  some ((Go.IntKind.wrap Go.IntKind.i64 ((0 : Int) - (Go.IntKind.wrap Go.IntKind.i64 y48.1.2.2.1))), Bool.true, ())
                else
                some ((Go.IntKind.wrap Go.IntKind.i64 y48.1.2.2.1), Bool.true, ())
          else
          Option.bind (L90_10 n (List.take ((List.length y48.1.1) - 1) (List.drop 1 y48.1.1)) (94 : Int) (0 : Int) Bool.false) fun y124 =>
          match y124 with
            | .inl y125 =>
              bif (!(y125.1.1 != (95 : Int))) then
                none
              else
              bif (Go.Iv.ile (9223372036854775808 : Int) y48.1.2.2.1) then
                none
              else
              bif y4.2.1 then
                some ((Go.IntKind.wrap Go.IntKind.i64 ((0 : Int) - (Go.IntKind.wrap Go.IntKind.i64 y48.1.2.2.1))), Bool.true, ())
              else
              some ((Go.IntKind.wrap Go.IntKind.i64 y48.1.2.2.1), Bool.true, ())
            | .inr y126 =>
              bif (!y126.1.1) then
                none
              else
              bif (Go.Iv.ile (9223372036854775808 : Int) y48.1.2.2.1) then
                none
              else
              bif y4.2.1 then
                some ((Go.IntKind.wrap Go.IntKind.i64 ((0 : Int) - (Go.IntKind.wrap Go.IntKind.i64 y48.1.2.2.1))), Bool.true, ())
              else
              some ((Go.IntKind.wrap Go.IntKind.i64 y48.1.2.2.1), Bool.true, ())
        else
        Option.bind (L90_10 n (List.take ((List.length y48.1.1) - 1) (List.drop 1 y48.1.1)) (94 : Int) (0 : Int) Bool.false) fun y131 =>
        match y131 with
          | .inl y132 =>
            bif (!(y132.1.1 != (95 : Int))) then
              none
            else
            bif (Go.Iv.ile (9223372036854775808 : Int) y48.1.2.2.1) then
              none
            else
            bif y4.2.1 then
              some ((Go.IntKind.wrap Go.IntKind.i64 ((0 : Int) - (Go.IntKind.wrap Go.IntKind.i64 y48.1.2.2.1))), Bool.true, ())
            else
            some ((Go.IntKind.wrap Go.IntKind.i64 y48.1.2.2.1), Bool.true, ())
          | .inr y133 =>
            bif (!y133.1.1) then
              none
            else
            bif (Go.Iv.ile (9223372036854775808 : Int) y48.1.2.2.1) then
              none
            else
            bif y4.2.1 then
              some ((Go.IntKind.wrap Go.IntKind.i64 ((0 : Int) - (Go.IntKind.wrap Go.IntKind.i64 y48.1.2.2.1))), Bool.true, ())
            else
            some ((Go.IntKind.wrap Go.IntKind.i64 y48.1.2.2.1), Bool.true, ())
        else none
      else
      bif (Go.Iv.ile (2 : Int) (len y48.1.1)) then
        Option.bind (y48.1.1[0]?) fun x138 =>
        bif (x138 == (48 : UInt8)) then
          Option.bind (y48.1.1[1]?) fun x139 =>
          bif ((x139 ||| (32 : UInt8)) == (98 : UInt8)) then
            Option.bind (y48.1.1[1]?) fun x140 =>
            Option.bind (L90_10 n y48.1.1 (48 : Int) (2 : Int) ((x140 ||| (32 : UInt8)) == (120 : UInt8))) fun y141 =>
            match y141 with
              | .inl y142 =>
                bif (!(y142.1.1 != (95 : Int))) then
                  none
                else
                bif (Go.Iv.ile (9223372036854775808 : Int) y48.1.2.2.1) then
                  none
                else
                bif y4.2.1 then
                  some ((Go.IntKind.wrap Go.IntKind.i64 ((0 : Int) - (Go.IntKind.wrap Go.IntKind.i64 y48.1.2.2.1))), Bool.true, ())
                else
                some ((Go.IntKind.wrap Go.IntKind.i64 y48.1.2.2.1), Bool.true, ())
              | .inr y143 =>
                bif (!y143.1.1) then
                  none
                else
                bif (Go.Iv.ile (9223372036854775808 : Int) y48.1.2.2.1) then
                  none
                else
                bif y4.2.1 then
                  some ((Go.IntKind.wrap Go.IntKind.i64 ((0 : Int) - (Go.IntKind.wrap Go.IntKind.i64 y48.1.2.2.1))), Bool.true, ())
                else
                some ((Go.IntKind.wrap Go.IntKind.i64 y48.1.2.2.1), Bool.true, ())
          else
          Option.bind (y48.1.1[1]?) fun x148 =>
          bif ((x148 ||| (32 : UInt8)) == (111 : UInt8)) then
            Option.bind (y48.1.1[1]?) fun x149 =>
            Option.bind (L90_10 n y48.1.1 (48 : Int) (2 : Int) ((x149 ||| (32 : UInt8)) == (120 : UInt8))) fun y150 =>
            match y150 with
              | .inl y151 =>
                bif (!(y151.1.1 != (95 : Int))) then
                  none
                else
                bif (Go.Iv.ile (9223372036854775808 : Int) y48.1.2.2.1) then
                  none
                else
                bif y4.2.1 then
                  some ((Go.IntKind.wrap Go.IntKind.i64 ((0 : Int) - (Go.IntKind.wrap Go.IntKind.i64 y48.1.2.2.1))), Bool.true, ())
                else
                some ((Go.IntKind.wrap Go.IntKind.i64 y48.1.2.2.1), Bool.true, ())
              | .inr y152 =>
                bif (!y152.1.1) then
                  none
                else
                bif (Go.Iv.ile (9223372036854775808 : Int) y48.1.2.2.1) then
                  none
                else
                bif y4.2.1 then
                  some ((Go.IntKind.wrap Go.IntKind.i64 ((0 : Int) - (Go.IntKind.wrap Go.IntKind.i64 y48.1.2.2.1))), Bool.true, ())
                else
                some ((Go.IntKind.wrap Go.IntKind.i64 y48.1.2.2.1), Bool.true, ())
          else
          Option.bind (y48.1.1[1]?) fun x157 =>
          bif ((x157 ||| (32 : UInt8)) == (120 : UInt8)) then
            Option.bind (y48.1.1[1]?) fun x158 =>
            Option.bind (L90_10 n y48.1.1 (48 : Int) (2 : Int) ((x158 ||| (32 : UInt8)) == (120 : UInt8))) fun y159 =>
            match y159 with
              | .inl y160 =>
                bif (!(y160.1.1 != (95 : Int))) then
                  none
                else
                bif (Go.Iv.ile (9223372036854775808 : Int) y48.1.2.2.1) then
                  none
                else
                bif y4.2.1 then
                  some ((Go.IntKind.wrap Go.IntKind.i64 ((0 : Int) - (Go.IntKind.wrap Go.IntKind.i64 y48.1.2.2.1))), Bool.true, ())
                else
                some ((Go.IntKind.wrap Go.IntKind.i64 y48.1.2.2.1), Bool.true, ())
              | .inr y161 =>
                bif (!y161.1.1) then
                  none
                else
                bif (Go.Iv.ile (9223372036854775808 : Int) y48.1.2.2.1) then
                  none
                else
                bif y4.2.1 then
                  some ((Go.IntKind.wrap Go.IntKind.i64 ((0 : Int) - (Go.IntKind.wrap Go.IntKind.i64 y48.1.2.2.1))), Bool.true, ())
                else
                some ((Go.IntKind.wrap Go.IntKind.i64 y48.1.2.2.1), Bool.true, ())
          else
          Option.bind (L90_10 n y48.1.1 (94 : Int) (0 : Int) Bool.false) fun y166 =>
          match y166 with
            | .inl y167 =>
              bif (!(y167.1.1 != (95 : Int))) then
                none
              else
              bif (Go.Iv.ile (9223372036854775808 : Int) y48.1.2.2.1) then
                none
              else
              bif y4.2.1 then
                some ((Go.IntKind.wrap Go.IntKind.i64 ((0 : Int) - (Go.IntKind.wrap Go.IntKind.i64 y48.1.2.2.1))), Bool.true, ())
              else
              some ((Go.IntKind.wrap Go.IntKind.i64 y48.1.2.2.1), Bool.true, ())
            | .inr y168 =>
              bif (!y168.1.1) then
                none
              else
              bif (Go.Iv.ile (9223372036854775808 : Int) y48.1.2.2.1) then
                none
              else
              bif y4.2.1 then
                some ((Go.IntKind.wrap Go.IntKind.i64 ((0 : Int) - (Go.IntKind.wrap Go.IntKind.i64 y48.1.2.2.1))), Bool.true, ())
              else
              some ((Go.IntKind.wrap Go.IntKind.i64 y48.1.2.2.1), Bool.true, ())
        else
        Option.bind (L90_10 n y48.1.1 (94 : Int) (0 : Int) Bool.false) fun y173 =>
        match y173 with
          | .inl y174 =>
            bif (!(y174.1.1 != (95 : Int))) then
              none
            else
            bif (Go.Iv.ile (9223372036854775808 : Int) y48.1.2.2.1) then
              none
            else
            bif y4.2.1 then
              some ((Go.IntKind.wrap Go.IntKind.i64 ((0 : Int) - (Go.IntKind.wrap Go.IntKind.i64 y48.1.2.2.1))), Bool.true, ())
            else
            some ((Go.IntKind.wrap Go.IntKind.i64 y48.1.2.2.1), Bool.true, ())
          | .inr y175 =>
            bif (!y175.1.1) then
              none
            else
            bif (Go.Iv.ile (9223372036854775808 : Int) y48.1.2.2.1) then
              none
            else
            bif y4.2.1 then
              some ((Go.IntKind.wrap Go.IntKind.i64 ((0 : Int) - (Go.IntKind.wrap Go.IntKind.i64 y48.1.2.2.1))), Bool.true, ())
            else
            some ((Go.IntKind.wrap Go.IntKind.i64 y48.1.2.2.1), Bool.true, ())
      else
      Option.bind (L90_10 n y48.1.1 (94 : Int) (0 : Int) Bool.false) fun y180 =>
      match y180 with
        | .inl y181 =>
          bif (!(y181.1.1 != (95 : Int))) then
            none
          else
          bif (Go.Iv.ile (9223372036854775808 : Int) y48.1.2.2.1) then
            none
          else
          bif y4.2.1 then
            some ((Go.IntKind.wrap Go.IntKind.i64 ((0 : Int) - (Go.IntKind.wrap Go.IntKind.i64 y48.1.2.2.1))), Bool.true, ())
          else
          some ((Go.IntKind.wrap Go.IntKind.i64 y48.1.2.2.1), Bool.true, ())
        | .inr y182 =>
          bif (!y182.1.1) then
            none
          else
          bif (Go.Iv.ile (9223372036854775808 : Int) y48.1.2.2.1) then
            none
          else
          bif y4.2.1 then
            some ((Go.IntKind.wrap Go.IntKind.i64 ((0 : Int) - (Go.IntKind.wrap Go.IntKind.i64 y48.1.2.2.1))), Bool.true, ())
          else
          some ((Go.IntKind.wrap Go.IntKind.i64 y48.1.2.2.1), Bool.true, ())
    else
    bif (Go.Iv.ile (9223372036854775808 : Int) y48.1.2.2.1) then
      none
    else
    bif y4.2.1 then
      some ((Go.IntKind.wrap Go.IntKind.i64 ((0 : Int) - (Go.IntKind.wrap Go.IntKind.i64 y48.1.2.2.1))), Bool.true, ())
    else
    some ((Go.IntKind.wrap Go.IntKind.i64 y48.1.2.2.1), Bool.true, ())
    else none
  else
  bif (x19 == (45 : UInt8)) then
    bif (Go.Iv.ile (1 : Int) (len y4.1)) then
    bif ((List.take ((List.length y4.1) - 1) (List.drop 1 y4.1)) == ([] : List UInt8)) then
      none
    else
    Option.bind (L77_36 (n + 1) (10 : Int) Bool.false (List.take ((List.length y4.1) - 1) (List.drop 1 y4.1)) (1844674407370955162 : Int) (18446744073709551615 : Int) Bool.false (0 : Int) (List.take ((List.length y4.1) - 1) (List.drop 1 y4.1)) (len (List.take ((List.length y4.1) - 1) (List.drop 1 y4.1))) (0 : Int)) fun y190 =>
    bif y190.1.2.1 then
      Option.bind (bif (Go.Iv.ile (1 : Int) (len y190.1.1)) then
          Option.bind (y190.1.1[0]?) fun x192 =>
          bif (x192 == (45 : UInt8)) then
            some Bool.true
          else
          Option.bind (y190.1.1[0]?) fun x193 =>
          some (x193 == (43 : UInt8))
        else
        some Bool.false) fun b194 =>
      bif b194 then
        bif (Go.Iv.ile (1 : Int) (len y190.1.1)) then
        bif (Go.Iv.ile (2 : Int) (len (List.take ((List.length y190.1.1) - 1) (List.drop 1 y190.1.1)))) then
          Option.bind ((List.take ((List.length y190.1.1) - 1) (List.drop 1 y190.1.1))[0]?) fun x195 =>
          bif (x195 == (48 : UInt8)) then
            Option.bind ((List.take ((List.length y190.1.1) - 1) (List.drop 1 y190.1.1))[1]?) fun x196 =>
            bif ((x196 ||| (32 : UInt8)) == (98 : UInt8)) then
              Option.bind ((List.take ((List.length y190.1.1) - 1) (List.drop 1 y190.1.1))[1]?) fun x197 =>
              Option.bind (L90_10 n (List.take ((List.length y190.1.1) - 1) (List.drop 1 y190.1.1)) (48 : Int) (2 : Int) ((x197 ||| (32 : UInt8)) == (120 : UInt8))) fun y198 =>
              match y198 with
                | .inl y199 =>
                  bif (!(y199.1.1 != (95 : Int))) then
                    none
                  else
                  bif (Go.Iv.ilt (9223372036854775808 : Int) y190.1.2.2.1) then
                    none
                  else
                  bif y4.2.1 then
                    some ((Go.IntKind.wrap Go.IntKind.i64 ((0 : Int) - (Go.IntKind.wrap Go.IntKind.i64 ((0 : Int) - (Go.IntKind.wrap Go.IntKind.i64 y190.1.2.2.1))))), Bool.true, ())
                  else
                  some ((Go.IntKind.wrap Go.IntKind.i64 ((0 : Int) - (Go.IntKind.wrap Go.IntKind.i64 y190.1.2.2.1))), Bool.true, ())
                | .inr y200 =>
                  bif (!y200.1.1) then
                    none
                  else
                  bif (Go.Iv.ilt (9223372036854775808 : Int) y190.1.2.2.1) then
                    none
                  else
                  bif y4.2.1 then
                    some ((Go.IntKind.wrap Go.IntKind.i64 ((0 : Int) - (Go.IntKind.wrap Go.IntKind.i64 ((0 : Int) - (Go.IntKind.wrap Go.IntKind.i64 y190.1.2.2.1))))), Bool.true, ())
                  else
                  some ((Go.IntKind.wrap Go.IntKind.i64 ((0 : Int) - (Go.IntKind.wrap Go.IntKind.i64 y190.1.2.2.1))), Bool.true, ())
            else
            Option.bind ((List.take ((List.length y190.1.1) - 1) (List.drop 1 y190.1.1))[1]?) fun x205 =>
            bif ((x205 ||| (32 : UInt8)) == (111 : UInt8)) then
              Option.bind ((List.take ((List.length y190.1.1) - 1) (List.drop 1 y190.1.1))[1]?) fun x206 =>
              Option.bind (L90_10 n (List.take ((List.length y190.1.1) - 1) (List.drop 1 y190.1.1)) (48 : Int) (2 : Int) ((x206 ||| (32 : UInt8)) == (120 : UInt8))) fun y207 =>
              match y207 with
                | .inl y208 =>
                  bif (!(y208.1.1 != (95 : Int))) then
                    none
                  else
                  bif (Go.Iv.ilt (9223372036854775808 : Int) y190.1.2.2.1) then
                    none
                  else
                  bif y4.2.1 then
                    some ((Go.IntKind.wrap Go.IntKind.i64 ((0 : Int) - (Go.IntKind.wrap Go.IntKind.i64 ((0 : Int) - (Go.IntKind.wrap Go.IntKind.i64 y190.1.2.2.1))))), Bool.true, ())
                  else
                  some ((Go.IntKind.wrap Go.IntKind.i64 ((0 : Int) - (Go.IntKind.wrap Go.IntKind.i64 y190.1.2.2.1))), Bool.true, ())
                | .inr y209 =>
                  bif (!y209.1.1) then
                    none
                  else
                  bif (Go.Iv.ilt (9223372036854775808 : Int) y190.1.2.2.1) then
                    none
                  else
                  bif y4.2.1 then
                    some ((Go.IntKind.wrap Go.IntKind.i64 ((0 : Int) - (Go.IntKind.wrap Go.IntKind.i64 ((0 : Int) - (Go.IntKind.wrap Go.IntKind.i64 y190.1.2.2.1))))), Bool.true, ())
                  else
                  some ((Go.IntKind.wrap Go.IntKind.i64 ((0 : Int) - (Go.IntKind.wrap Go.IntKind.i64 y190.1.2.2.1))), Bool.true, ())
            else
            Option.bind ((List.take ((List.length y190.1.1) - 1) (List.drop 1 y190.1.1))[1]?) fun x214 =>
            bif ((x214 ||| (32 : UInt8)) == (120 : UInt8)) then
              Option.bind ((List.take ((List.length y190.1.1) - 1) (List.drop 1 y190.1.1))[1]?) fun x215 =>
              Option.bind (L90_10 n (List.take ((List.length y190.1.1) - 1) (List.drop 1 y190.1.1)) (48 : Int) (2 : Int) ((x215 ||| (32 : UInt8)) == (120 : UInt8))) fun y216 =>
              match y216 with
                | .inl y217 =>
                  bif (!(y217.1.1 != (95 : Int))) then
                    none
                  else
                  bif (Go.Iv.ilt (9223372036854775808 : Int) y190.1.2.2.1) then
                    none
                  else
                  bif y4.2.1 then
                    some ((Go.IntKind.wrap Go.IntKind.i64 ((0 : Int) - (Go.IntKind.wrap Go.IntKind.i64 ((0 : Int) - (Go.IntKind.wrap Go.IntKind.i64 y190.1.2.2.1))))), Bool.true, ())
                  else
                  some ((Go.IntKind.wrap Go.IntKind.i64 ((0 : Int) - (Go.IntKind.wrap Go.IntKind.i64 y190.1.2.2.1))), Bool.true, ())
                | .inr y218 =>
                  bif (!y218.1.1) then
                    none
                  else
                  bif (Go.Iv.ilt (9223372036854775808 : Int) y190.1.2.2.1) then
                    none
                  else
                  bif y4.2.1 then
                    some ((Go.IntKind.wrap Go.IntKind.i64 ((0 : Int) - (Go.IntKind.wrap Go.IntKind.i64 ((0 : Int) - (Go.IntKind.wrap Go.IntKind.i64 y190.1.2.2.1))))), Bool.true, ())
                  else
                  some ((Go.IntKind.wrap Go.IntKind.i64 ((0 : Int) - (Go.IntKind.wrap Go.IntKind.i64 y190.1.2.2.1))), Bool.true, ())
            else
            Option.bind (L90_10 n (List.take ((List.length y190.1.1) - 1) (List.drop 1 y190.1.1)) (94 : Int) (0 : Int) Bool.false) fun y223 =>
            match y223 with
              | .inl y224 =>
                bif (!(y224.1.1 != (95 : Int))) then
                  none
                else
                bif (Go.Iv.ilt (9223372036854775808 : Int) y190.1.2.2.1) then
                  none
                else
                bif y4.2.1 then
                  some ((Go.IntKind.wrap Go.IntKind.i64 ((0 : Int) - (Go.IntKind.wrap Go.IntKind.i64 ((0 : Int) - (Go.IntKind.wrap Go.IntKind.i64 y190.1.2.2.1))))), Bool.true, ())
                else
                some ((Go.IntKind.wrap Go.IntKind.i64 ((0 : Int) - (Go.IntKind.wrap Go.IntKind.i64 y190.1.2.2.1))), Bool.true, ())
              | .inr y225 =>
                bif (!y225.1.1) then
                  none
                else
                bif (Go.Iv.ilt (9223372036854775808 : Int) y190.1.2.2.1) then
                  none
                else
                bif y4.2.1 then
                  some ((Go.IntKind.wrap Go.IntKind.i64 ((0 : Int) - (Go.IntKind.wrap Go.IntKind.i64 ((0 : Int) - (Go.IntKind.wrap Go.IntKind.i64 y190.1.2.2.1))))), Bool.true, ())
                else
                some ((Go.IntKind.wrap Go.IntKind.i64 ((0 : Int) - (Go.IntKind.wrap Go.IntKind.i64 y190.1.2.2.1))), Bool.true, ())
          else
          Option.bind (L90_10 n (List.take ((List.length y190.1.1) - 1) (List.drop 1 y190.1.1)) (94 : Int) (0 : Int) Bool.false) fun y230 =>
          match y230 with
            | .inl y231 =>
              bif (!(y231.1.1 != (95 : Int))) then
                none
              else
              bif (Go.Iv.ilt (9223372036854775808 : Int) y190.1.2.2.1) then
                none
              else
              bif y4.2.1 then
                some ((Go.IntKind.wrap Go.IntKind.i64 ((0 : Int) - (Go.IntKind.wrap Go.IntKind.i64 ((0 : Int) - (Go.IntKind.wrap Go.IntKind.i64 y190.1.2.2.1))))), Bool.true, ())
              else
              some ((Go.IntKind.wrap Go.IntKind.i64 ((0 : Int) - (Go.IntKind.wrap Go.IntKind.i64 y190.1.2.2.1))), Bool.true, ())
            | .inr y232 =>
              bif (!y232.1.1) then
                none
              else
              bif (Go.Iv.ilt (9223372036854775808 : Int) y190.1.2.2.1) then
                none
              else
              bif y4.2.1 then
                some ((Go.IntKind.wrap Go.IntKind.i64 ((0 : Int) - (Go.IntKind.wrap Go.IntKind.i64 ((0 : Int) - (Go.IntKind.wrap Go.IntKind.i64 y190.1.2.2.1))))), Bool.true, ())
              else
              some ((Go.IntKind.wrap Go.IntKind.i64 ((0 : Int) - (Go.IntKind.wrap Go.IntKind.i64 y190.1.2.2.1))), Bool.true, ())
        else
        Option.bind (L90_10 n (List.take ((List.length y190.1.1) - 1) (List.drop 1 y190.1.1)) (94 : Int) (0 : Int) Bool.false) fun y237 =>
        match y237 with
          | .inl y238 =>
            bif (!(y238.1.1 != (95 : Int))) then
              none
            else
            bif (Go.Iv.ilt (9223372036854775808 : Int) y190.1.2.2.1) then
              none
            else
            bif y4.2.1 then
              some ((Go.IntKind.wrap Go.IntKind.i64 ((0 : Int) - (Go.IntKind.wrap Go.IntKind.i64 ((0 : Int) - (Go.IntKind.wrap Go.IntKind.i64 y190.1.2.2.1))))), Bool.true, ())
            else
            some ((Go.IntKind.wrap Go.IntKind.i64 ((0 : Int) - (Go.IntKind.wrap Go.IntKind.i64 y190.1.2.2.1))), Bool.true, ())
          | .inr y239 =>
            bif (!y239.1.1) then
              none
            else
            bif (Go.Iv.ilt (9223372036854775808 : Int) y190.1.2.2.1) then
              none
            else
            bif y4.2.1 then
              some ((Go.IntKind.wrap Go.IntKind.i64 ((0 : Int) - (Go.IntKind.wrap Go.IntKind.i64 ((0 : Int) - (Go.IntKind.wrap Go.IntKind.i64 y190.1.2.2.1))))), Bool.true, ())
            else
            some ((Go.IntKind.wrap Go.IntKind.i64 ((0 : Int) - (Go.IntKind.wrap Go.IntKind.i64 y190.1.2.2.1))), Bool.true, ())
        else none
      else
      bif (Go.Iv.ile (2 : Int) (len y190.1.1)) then
        Option.bind (y190.1.1[0]?) fun x244 =>
        bif (x244 == (48 : UInt8)) then
          Option.bind (y190.1.1[1]?) fun x245 =>
          bif ((x245 ||| (32 : UInt8)) == (98 : UInt8)) then
            Option.bind (y190.1.1[1]?) fun x246 =>
            Option.bind (L90_10 n y190.1.1 (48 : Int) (2 : Int) ((x246 ||| (32 : UInt8)) == (120 : UInt8))) fun y247 =>
            match y247 with
              | .inl y248 =>
                bif (!(y248.1.1 != (95 : Int))) then
                  none
                else
                bif (Go.Iv.ilt (9223372036854775808 : Int) y190.1.2.2.1) then
                  none
                else
                bif y4.2.1 then
                  some ((Go.IntKind.wrap Go.IntKind.i64 ((0 : Int) - (Go.IntKind.wrap Go.IntKind.i64 ((0 : Int) - (Go.IntKind.wrap Go.IntKind.i64 y190.1.2.2.1))))), Bool.true, ())
                else
                some ((Go.IntKind.wrap Go.IntKind.i64 ((0 : Int) - (Go.IntKind.wrap Go.IntKind.i64 y190.1.2.2.1))), Bool.true, ())
              | .inr y249 =>
                bif (!y249.1.1) then
                  none
                else
                bif (Go.Iv.ilt (9223372036854775808 : Int) y190.1.2.2.1) then
                  none
                else
                bif y4.2.1 then
                  some ((Go.IntKind.wrap Go.IntKind.i64 ((0 : Int) - (Go.IntKind.wrap Go.IntKind.i64 ((0 : Int) - (Go.IntKind.wrap Go.IntKind.i64 y190.1.2.2.1))))), Bool.true, ())
                else
                some ((Go.IntKind.wrap Go.IntKind.i64 ((0 : Int) - (Go.IntKind.wrap Go.IntKind.i64 y190.1.2.2.1))), Bool.true, ())
          else
          Option.bind (y190.1.1[1]?) fun x254 =>
          bif ((x254 ||| (32 : UInt8)) == (111 : UInt8)) then
            Option.bind (y190.1.1[1]?) fun x255 =>
            Option.bind (L90_10 n y190.1.1 (48 : Int) (2 : Int) ((x255 ||| (32 : UInt8)) == (120 : UInt8))) fun y256 =>
            match y256 with
              | .inl y257 =>
                bif (!(y257.1.1 != (95 : Int))) then
                  none
                else
                bif (Go.Iv.ilt (9223372036854775808 : Int) y190.1.2.2.1) then
                  none
                else
                bif y4.2.1 then
                  some ((Go.IntKind.wrap Go.IntKind.i64 ((0 : Int) - (Go.IntKind.wrap Go.IntKind.i64 ((0 : Int) - (Go.IntKind.wrap Go.IntKind.i64 y190.1.2.2.1))))), Bool.true, ())
                else
                some ((Go.IntKind.wrap Go.IntKind.i64 ((0 : Int) - (Go.IntKind.wrap Go.IntKind.i64 y190.1.2.2.1))), Bool.true, ())
              | .inr y258 =>
                bif (!y258.1.1) then
                  none
                else
                bif (Go.Iv.ilt (9223372036854775808 : Int) y190.1.2.2.1) then
                  none
                else
                bif y4.2.1 then
                  some ((Go.IntKind.wrap Go.IntKind.i64 ((0 : Int) - (Go.IntKind.wrap Go.IntKind.i64 ((0 : Int) - (Go.IntKind.wrap Go.IntKind.i64 y190.1.2.2.1))))), Bool.true, ())
                else
                some ((Go.IntKind.wrap Go.IntKind.i64 ((0 : Int) - (Go.IntKind.wrap Go.IntKind.i64 y190.1.2.2.1))), Bool.true, ())
          else
          Option.bind (y190.1.1[1]?) fun x263 =>
          bif ((x263 ||| (32 : UInt8)) == (120 : UInt8)) then
            Option.bind (y190.1.1[1]?) fun x264 =>
            Option.bind (L90_10 n y190.1.1 (48 : Int) (2 : Int) ((x264 ||| (32 : UInt8)) == (120 : UInt8))) fun y265 =>
            match y265 with
              | .inl y266 =>
                bif (!(y266.1.1 != (95 : Int))) then
                  none
                else
                bif (Go.Iv.ilt (9223372036854775808 : Int) y190.1.2.2.1) then
                  none
                else
                bif y4.2.1 then
                  some ((Go.IntKind.wrap Go.IntKind.i64 ((0 : Int) - (Go.IntKind.wrap Go.IntKind.i64 ((0 : Int) - (Go.IntKind.wrap Go.IntKind.i64 y190.1.2.2.1))))), Bool.true, ())
                else
                some ((Go.IntKind.wrap Go.IntKind.i64 ((0 : Int) - (Go.IntKind.wrap Go.IntKind.i64 y190.1.2.2.1))), Bool.true, ())
              | .inr y267 =>
                bif (!y267.1.1) then
                  none
                else
                bif (Go.Iv.ilt (9223372036854775808 : Int) y190.1.2.2.1) then
                  none
                else
                bif y4.2.1 then
                  some ((Go.IntKind.wrap Go.IntKind.i64 ((0 : Int) - (Go.IntKind.wrap Go.IntKind.i64 ((0 : Int) - (Go.IntKind.wrap Go.IntKind.i64 y190.1.2.2.1))))), Bool.true, ())
                else
                some ((Go.IntKind.wrap Go.IntKind.i64 ((0 : Int) - (Go.IntKind.wrap Go.IntKind.i64 y190.1.2.2.1))), Bool.true, ())
          else
          Option.bind (L90_10 n y190.1.1 (94 : Int) (0 : Int) Bool.false) fun y272 =>
          match y272 with
            | .inl y273 =>
              bif (!(y273.1.1 != (95 : Int))) then
                none
              else
              bif (Go.Iv.ilt (9223372036854775808 : Int) y190.1.2.2.1) then
                none
              else
              bif y4.2.1 then
                some ((Go.IntKind.wrap Go.IntKind.i64 ((0 : Int) - (Go.IntKind.wrap Go.IntKind.i64 ((0 : Int) - (Go.IntKind.wrap Go.IntKind.i64 y190.1.2.2.1))))), Bool.true, ())
              else
              some ((Go.IntKind.wrap Go.IntKind.i64 ((0 : Int) - (Go.IntKind.wrap Go.IntKind.i64 y190.1.2.2.1))), Bool.true, ())
            | .inr y274 =>
              bif (!y274.1.1) then
                none
              else
              bif (Go.Iv.ilt (9223372036854775808 : Int) y190.1.2.2.1) then
                none
              else
              bif y4.2.1 then
                some ((Go.IntKind.wrap Go.IntKind.i64 ((0 : Int) - (Go.IntKind.wrap Go.IntKind.i64 ((0 : Int) - (Go.IntKind.wrap Go.IntKind.i64 y190.1.2.2.1))))), Bool.true, ())
              else
              some ((Go.IntKind.wrap Go.IntKind.i64 ((0 : Int) - (Go.IntKind.wrap Go.IntKind.i64 y190.1.2.2.1))), Bool.true, ())
        else
        Option.bind (L90_10 n y190.1.1 (94 : Int) (0 : Int) Bool.false) fun y279 =>
        match y279 with
          | .inl y280 =>
            bif (!(y280.1.1 != (95 : Int))) then
              none
            else
            bif (Go.Iv.ilt (9223372036854775808 : Int) y190.1.2.2.1) then
              none
            else
            bif y4.2.1 then
              some ((Go.IntKind.wrap Go.IntKind.i64 ((0 : Int) - (Go.IntKind.wrap Go.IntKind.i64 ((0 : Int) - (Go.IntKind.wrap Go.IntKind.i64 y190.1.2.2.1))))), Bool.true, ())
            else
            some ((Go.IntKind.wrap Go.IntKind.i64 ((0 : Int) - (Go.IntKind.wrap Go.IntKind.i64 y190.1.2.2.1))), Bool.true, ())
          | .inr y281 =>
            bif (!y281.1.1) then
              none
            else
            bif (Go.Iv.ilt (9223372036854775808 : Int) y190.1.2.2.1) then
              none
            else
            bif y4.2.1 then
              some ((Go.IntKind.wrap Go.IntKind.i64 ((0 : Int) - (Go.IntKind.wrap Go.IntKind.i64 ((0 : Int) - (Go.IntKind.wrap Go.IntKind.i64 y190.1.2.2.1))))), Bool.true, ())
            else
            some ((Go.IntKind.wrap Go.IntKind.i64 ((0 : Int) - (Go.IntKind.wrap Go.IntKind.i64 y190.1.2.2.1))), Bool.true, ())
      else
      Option.bind (L90_10 n y190.1.1 (94 : Int) (0 : Int) Bool.false) fun y286 =>
      match y286 with
        | .inl y287 =>
          bif (!(y287.1.1 != (95 : Int))) then
            none
          else
          bif (Go.Iv.ilt (9223372036854775808 : Int) y190.1.2.2.1) then
            none
          else
          bif y4.2.1 then
            some ((Go.IntKind.wrap Go.IntKind.i64 ((0 : Int) - (Go.IntKind.wrap Go.IntKind.i64 ((0 : Int) - (Go.IntKind.wrap Go.IntKind.i64 y190.1.2.2.1))))), Bool.true, ())
          else
          some ((Go.IntKind.wrap Go.IntKind.i64 ((0 : Int) - (Go.IntKind.wrap Go.IntKind.i64 y190.1.2.2.1))), Bool.true, ())
        | .inr y288 =>
          bif (!y288.1.1) then
            none
          else
          bif (Go.Iv.ilt (9223372036854775808 : Int) y190.1.2.2.1) then
            none
          else
          bif y4.2.1 then
            some ((Go.IntKind.wrap Go.IntKind.i64 ((0 : Int) - (Go.IntKind.wrap Go.IntKind.i64 ((0 : Int) - (Go.IntKind.wrap Go.IntKind.i64 y190.1.2.2.1))))), Bool.true, ())
          else
          some ((Go.IntKind.wrap Go.IntKind.i64 ((0 : Int) - (Go.IntKind.wrap Go.IntKind.i64 y190.1.2.2.1))), Bool.true, ())
    else
    bif (Go.Iv.ilt (9223372036854775808 : Int) y190.1.2.2.1) then
      none
    else
    bif y4.2.1 then
      some ((Go.IntKind.wrap Go.IntKind.i64 ((0 : Int) - (Go.IntKind.wrap Go.IntKind.i64 ((0 : Int) - (Go.IntKind.wrap Go.IntKind.i64 y190.1.2.2.1))))), Bool.true, ())
    else
    some ((Go.IntKind.wrap Go.IntKind.i64 ((0 : Int) - (Go.IntKind.wrap Go.IntKind.i64 y190.1.2.2.1))), Bool.true, ())
    else none
  else
  bif (y4.1 == ([] : List UInt8)) then
    none
  else
  Option.bind (L77_36 (n + 1) (10 : Int) Bool.false y4.1 (1844674407370955162 : Int) (18446744073709551615 : Int) Bool.false (0 : Int) y4.1 (len y4.1) (0 : Int)) fun y296 =>
  bif y296.1.2.1 then
    Option.bind (bif (Go.Iv.ile (1 : Int) (len y296.1.1)) then
        Option.bind (y296.1.1[0]?) fun x298 =>
        bif (x298 == (45 : UInt8)) then
          some Bool.true
        else
        Option.bind (y296.1.1[0]?) fun x299 =>
        some (x299 == (43 : UInt8))
      else
      some Bool.false) fun b300 =>
    bif b300 then
      bif (Go.Iv.ile (1 : Int) (len y296.1.1)) then
      bif (Go.Iv.ile (2 : Int) (len (List.take ((List.length y296.1.1) - 1) (List.drop 1 y296.1.1)))) then
        Option.bind ((List.take ((List.length y296.1.1) - 1) (List.drop 1 y296.1.1))[0]?) fun x301 =>
        bif (x301 == (48 : UInt8)) then
          Option.bind ((List.take ((List.length y296.1.1) - 1) (List.drop 1 y296.1.1))[1]?) fun x302 =>
          bif ((x302 ||| (32 : UInt8)) == (98 : UInt8)) then
            Option.bind ((List.take ((List.length y296.1.1) - 1) (List.drop 1 y296.1.1))[1]?) fun x303 =>
            Option.bind (L90_10 n (List.take ((List.length y296.1.1) - 1) (List.drop 1 y296.1.1)) (48 : Int) (2 : Int) ((x303 ||| (32 : UInt8)) == (120 : UInt8))) fun y304 =>
            match y304 with
              | .inl y305 =>
                bif (!(y305.1.1 != (95 : Int))) then
                  none
                else
                bif (Go.Iv.ile (9223372036854775808 : Int) y296.1.2.2.1) then
                  none
                else
                bif y4.2.1 then
                  some ((Go.IntKind.wrap Go.IntKind.i64 ((0 : Int) - (Go.IntKind.wrap Go.IntKind.i64 y296.1.2.2.1))), Bool.true, ())
                else
                some ((Go.IntKind.wrap Go.IntKind.i64 y296.1.2.2.1), Bool.true, ())
              | .inr y306 =>
                bif (!y306.1.1) then
                  none
                else
                bif (Go.Iv.ile (9223372036854775808 : Int) y296.1.2.2.1) then
                  none
                else
                bif y4.2.1 then
                  some ((Go.IntKind.wrap Go.IntKind.i64 ((0 : Int) - (Go.IntKind.wrap Go.IntKind.i64 y296.1.2.2.1))), Bool.true, ())
                else
                some ((Go.IntKind.wrap Go.IntKind.i64 y296.1.2.2.1), Bool.true, ())
          else
          Option.bind ((List.take ((List.length y296.1.1) - 1) (List.drop 1 y296.1.1))[1]?) fun x311 =>
          bif ((x311 ||| (32 : UInt8)) == (111 : UInt8)) then
            Option.bind ((List.take ((List.length y296.1.1) - 1) (List.drop 1 y296.1.1))[1]?) fun x312 =>
            Option.bind (L90_10 n (List.take ((List.length y296.1.1) - 1) (List.drop 1 y296.1.1)) (48 : Int) (2 : Int) ((x312 ||| (32 : UInt8)) == (120 : UInt8))) fun y313 =>
            match y313 with
              | .inl y314 =>
                bif (!(y314.1.1 != (95 : Int))) then
                  none
                else
                bif (Go.Iv.ile (9223372036854775808 : Int) y296.1.2.2.1) then
                  none
                else
                bif y4.2.1 then
                  some ((Go.IntKind.wrap Go.IntKind.i64 ((0 : Int) - (Go.IntKind.wrap Go.IntKind.i64 y296.1.2.2.1))), Bool.true, ())
                else
                some ((Go.IntKind.wrap Go.IntKind.i64 y296.1.2.2.1), Bool.true, ())
              | .inr y315 =>
                bif (!y315.1.1) then
                  none
                else
                bif (Go.Iv.ile (9223372036854775808 : Int) y296.1.2.2.1) then
                  none
                else
                bif y4.2.1 then
                  some ((Go.IntKind.wrap Go.IntKind.i64 ((0 : Int) - (Go.IntKind.wrap Go.IntKind.i64 y296.1.2.2.1))), Bool.true, ())
                else
                some ((Go.IntKind.wrap Go.IntKind.i64 y296.1.2.2.1), Bool.true, ())
          else
          Option.bind ((List.take ((List.length y296.1.1) - 1) (List.drop 1 y296.1.1))[1]?) fun x320 =>
          bif ((x320 ||| (32 : UInt8)) == (120 : UInt8)) then
            Option.bind ((List.take ((List.length y296.1.1) - 1) (List.drop 1 y296.1.1))[1]?) fun x321 =>
            Option.bind (L90_10 n (List.take ((List.length y296.1.1) - 1) (List.drop 1 y296.1.1)) (48 : Int) (2 : Int) ((x321 ||| (32 : UInt8)) == (120 : UInt8))) fun y322 =>
            match y322 with
              | .inl y323 =>
                bif (!(y323.1.1 != (95 : Int))) then
                  none
                else
                bif (Go.Iv.ile (9223372036854775808 : Int) y296.1.2.2.1) then
                  none
                else
                bif y4.2.1 then
                  some ((Go.IntKind.wrap Go.IntKind.i64 ((0 : Int) - (Go.IntKind.wrap Go.IntKind.i64 y296.1.2.2.1))), Bool.true, ())
                else
                some ((Go.IntKind.wrap Go.IntKind.i64 y296.1.2.2.1), Bool.true, ())
              | .inr y324 =>
                bif (!y324.1.1) then
                  none
                else
                bif (Go.Iv.ile (9223372036854775808 : Int) y296.1.2.2.1) then
                  none
                else
                bif y4.2.1 then
                  some ((Go.IntKind.wrap Go.IntKind.i64 ((0 : Int) - (Go.IntKind.wrap Go.IntKind.i64 y296.1.2.2.1))), Bool.true, ())
                else
                some ((Go.IntKind.wrap Go.IntKind.i64 y296.1.2.2.1), Bool.true, ())
          else
          Option.bind (L90_10 n (List.take ((List.length y296.1.1) - 1) (List.drop 1 y296.1.1)) (94 : Int) (0 : Int) Bool.false) fun y329 =>
          match y329 with
            | .inl y330 =>
              bif (!(y330.1.1 != (95 : Int))) then
                none
              else
              bif (Go.Iv.ile (9223372036854775808 : Int) y296.1.2.2.1) then
                none
              else
              bif y4.2.1 then
                some ((Go.IntKind.wrap Go.IntKind.i64 ((0 : Int) - (Go.IntKind.wrap Go.IntKind.i64 y296.1.2.2.1))), Bool.true, ())
              else
              some ((Go.IntKind.wrap Go.IntKind.i64 y296.1.2.2.1), Bool.true, ())
            | .inr y331 =>
              bif (!y331.1.1) then
                none
              else
              bif (Go.Iv.ile (9223372036854775808 : Int) y296.1.2.2.1) then
                none
              else
              bif y4.2.1 then
                some ((Go.IntKind.wrap Go.IntKind.i64 ((0 : Int) - (Go.IntKind.wrap Go.IntKind.i64 y296.1.2.2.1))), Bool.true, ())
              else
              some ((Go.IntKind.wrap Go.IntKind.i64 y296.1.2.2.1), Bool.true, ())
        else
        Option.bind (L90_10 n (List.take ((List.length y296.1.1) - 1) (List.drop 1 y296.1.1)) (94 : Int) (0 : Int) Bool.false) fun y336 =>
        match y336 with
          | .inl y337 =>
            bif (!(y337.1.1 != (95 : Int))) then
              none
            else
            bif (Go.Iv.ile (9223372036854775808 : Int) y296.1.2.2.1) then
              none
            else
            bif y4.2.1 then
              some ((Go.IntKind.wrap Go.IntKind.i64 ((0 : Int) - (Go.IntKind.wrap Go.IntKind.i64 y296.1.2.2.1))), Bool.true, ())
            else
            some ((Go.IntKind.wrap Go.IntKind.i64 y296.1.2.2.1), Bool.true, ())
          | .inr y338 =>
            bif (!y338.1.1) then
              none
            else
            bif (Go.Iv.ile (9223372036854775808 : Int) y296.1.2.2.1) then
              none
            else
            bif y4.2.1 then
              some ((Go.IntKind.wrap Go.IntKind.i64 ((0 : Int) - (Go.IntKind.wrap Go.IntKind.i64 y296.1.2.2.1))), Bool.true, ())
            else
            some ((Go.IntKind.wrap Go.IntKind.i64 y296.1.2.2.1), Bool.true, ())
      else
      Option.bind (L90_10 n (List.take ((List.length y296.1.1) - 1) (List.drop 1 y296.1.1)) (94 : Int) (0 : Int) Bool.false) fun y343 =>
      match y343 with
        | .inl y344 =>
          bif (!(y344.1.1 != (95 : Int))) then
            none
          else
          bif (Go.Iv.ile (9223372036854775808 : Int) y296.1.2.2.1) then
            none
          else
          bif y4.2.1 then
            some ((Go.IntKind.wrap Go.IntKind.i64 ((0 : Int) - (Go.IntKind.wrap Go.IntKind.i64 y296.1.2.2.1))), Bool.true, ())
          else
          some ((Go.IntKind.wrap Go.IntKind.i64 y296.1.2.2.1), Bool.true, ())
        | .inr y345 =>
          bif (!y345.1.1) then
            none
          else
          bif (Go.Iv.ile (9223372036854775808 : Int) y296.1.2.2.1) then
            none
          else
          bif y4.2.1 then
            some ((Go.IntKind.wrap Go.IntKind.i64 ((0 : Int) - (Go.IntKind.wrap Go.IntKind.i64 y296.1.2.2.1))), Bool.true, ())
          else
          some ((Go.IntKind.wrap Go.IntKind.i64 y296.1.2.2.1), Bool.true, ())
      else none
    else
    bif (Go.Iv.ile (2 : Int) (len y296.1.1)) then
      Option.bind (y296.1.1[0]?) fun x350 =>
      bif (x350 == (48 : UInt8)) then
        Option.bind (y296.1.1[1]?) fun x351 =>
        bif ((x351 ||| (32 : UInt8)) == (98 : UInt8)) then
          Option.bind (y296.1.1[1]?) fun x352 =>
          Option.bind (L90_10 n y296.1.1 (48 : Int) (2 : Int) ((x352 ||| (32 : UInt8)) == (120 : UInt8))) fun y353 =>
          match y353 with
            | .inl y354 =>
              bif (!(y354.1.1 != (95 : Int))) then
                none
              else
              bif (Go.Iv.ile (9223372036854775808 : Int) y296.1.2.2.1) then
                none
              else
              bif y4.2.1 then
                some ((Go.IntKind.wrap Go.IntKind.i64 ((0 : Int) - (Go.IntKind.wrap Go.IntKind.i64 y296.1.2.2.1))), Bool.true, ())
              else
              some ((Go.IntKind.wrap Go.IntKind.i64 y296.1.2.2.1), Bool.true, ())
            | .inr y355 =>
              bif (!y355.1.1) then
                none
              else
              bif (Go.Iv.ile (9223372036854775808 : Int) y296.1.2.2.1) then
                none
              else
              bif y4.2.1 then
                some ((Go.IntKind.wrap Go.IntKind.i64 ((0 : Int) - (Go.IntKind.wrap Go.IntKind.i64 y296.1.2.2.1))), Bool.true, ())
              else
              some ((Go.IntKind.wrap Go.IntKind.i64 y296.1.2.2.1), Bool.true, ())
        else
        Option.bind (y296.1.1[1]?) fun x360 =>
        bif ((x360 ||| (32 : UInt8)) == (111 : UInt8)) then
          Option.bind (y296.1.1[1]?) fun x361 =>
          Option.bind (L90_10 n y296.1.1 (48 : Int) (2 : Int) ((x361 ||| (32 : UInt8)) == (120 : UInt8))) fun y362 =>
          match y362 with
            | .inl y363 =>
              bif (!(y363.1.1 != (95 : Int))) then
                none
              else
              bif (Go.Iv.ile (9223372036854775808 : Int) y296.1.2.2.1) then
                none
              else
              bif y4.2.1 then
                some ((Go.IntKind.wrap Go.IntKind.i64 ((0 : Int) - (Go.IntKind.wrap Go.IntKind.i64 y296.1.2.2.1))), Bool.true, ())
              else
              some ((Go.IntKind.wrap Go.IntKind.i64 y296.1.2.2.1), Bool.true, ())
            | .inr y364 =>
              bif (!y364.1.1) then
                none
              else
              bif (Go.Iv.ile (9223372036854775808 : Int) y296.1.2.2.1) then
                none
              else
              bif y4.2.1 then
                some ((Go.IntKind.wrap Go.IntKind.i64 ((0 : Int) - (Go.IntKind.wrap Go.IntKind.i64 y296.1.2.2.1))), Bool.true, ())
              else
              some ((Go.IntKind.wrap Go.IntKind.i64 y296.1.2.2.1), Bool.true, ())
        else
        Option.bind (y296.1.1[1]?) fun x369 =>
        bif ((x369 ||| (32 : UInt8)) == (120 : UInt8)) then
          Option.bind (y296.1.1[1]?) fun x370 =>
          Option.bind (L90_10 n y296.1.1 (48 : Int) (2 : Int) ((x370 ||| (32 : UInt8)) == (120 : UInt8))) fun y371 =>
          match y371 with
            | .inl y372 =>
              bif (!(y372.1.1 != (95 : Int))) then
                none
              else
              bif (Go.Iv.ile (9223372036854775808 : Int) y296.1.2.2.1) then
                none
              else
              bif y4.2.1 then
                some ((Go.IntKind.wrap Go.IntKind.i64 ((0 : Int) - (Go.IntKind.wrap Go.IntKind.i64 y296.1.2.2.1))), Bool.true, ())
              else
              some ((Go.IntKind.wrap Go.IntKind.i64 y296.1.2.2.1), Bool.true, ())
            | .inr y373 =>
              bif (!y373.1.1) then
                none
              else
              bif (Go.Iv.ile (9223372036854775808 : Int) y296.1.2.2.1) then
                none
              else
              bif y4.2.1 then
                some ((Go.IntKind.wrap Go.IntKind.i64 ((0 : Int) - (Go.IntKind.wrap Go.IntKind.i64 y296.1.2.2.1))), Bool.true, ())
              else
              some ((Go.IntKind.wrap Go.IntKind.i64 y296.1.2.2.1), Bool.true, ())
        else
        Option.bind (L90_10 n y296.1.1 (94 : Int) (0 : Int) Bool.false) fun y378 =>
        match y378 with
          | .inl y379 =>
            bif (!(y379.1.1 != (95 : Int))) then
              none
            else
            bif (Go.Iv.ile (9223372036854775808 : Int) y296.1.2.2.1) then
              none
            else
            bif y4.2.1 then
              some ((Go.IntKind.wrap Go.IntKind.i64 ((0 : Int) - (Go.IntKind.wrap Go.IntKind.i64 y296.1.2.2.1))), Bool.true, ())
            else
            some ((Go.IntKind.wrap Go.IntKind.i64 y296.1.2.2.1), Bool.true, ())
          | .inr y380 =>
            bif (!y380.1.1) then
              none
            else
            bif (Go.Iv.ile (9223372036854775808 : Int) y296.1.2.2.1) then
              none
            else
            bif y4.2.1 then
              some ((Go.IntKind.wrap Go.IntKind.i64 ((0 : Int) - (Go.IntKind.wrap Go.IntKind.i64 y296.1.2.2.1))), Bool.true, ())
            else
            some ((Go.IntKind.wrap Go.IntKind.i64 y296.1.2.2.1), Bool.true, ())
      else
      Option.bind (L90_10 n y296.1.1 (94 : Int) (0 : Int) Bool.false) fun y385 =>
      match y385 with
        | .inl y386 =>
          bif (!(y386.1.1 != (95 : Int))) then
            none
          else
          bif (Go.Iv.ile (9223372036854775808 : Int) y296.1.2.2.1) then
            none
          else
          bif y4.2.1 then
            some ((Go.IntKind.wrap Go.IntKind.i64 ((0 : Int) - (Go.IntKind.wrap Go.IntKind.i64 y296.1.2.2.1))), Bool.true, ())
          else
          some ((Go.IntKind.wrap Go.IntKind.i64 y296.1.2.2.1), Bool.true, ())
        | .inr y387 =>
          bif (!y387.1.1) then
            none
          else
          bif (Go.Iv.ile (9223372036854775808 : Int) y296.1.2.2.1) then
            none
          else
          bif y4.2.1 then
            some ((Go.IntKind.wrap Go.IntKind.i64 ((0 : Int) - (Go.IntKind.wrap Go.IntKind.i64 y296.1.2.2.1))), Bool.true, ())
          else
          some ((Go.IntKind.wrap Go.IntKind.i64 y296.1.2.2.1), Bool.true, ())
    else
    Option.bind (L90_10 n y296.1.1 (94 : Int) (0 : Int) Bool.false) fun y392 =>
    match y392 with
      | .inl y393 =>
        bif (!(y393.1.1 != (95 : Int))) then
          none
        else
        bif (Go.Iv.ile (9223372036854775808 : Int) y296.1.2.2.1) then
          none
        else
        bif y4.2.1 then
          some ((Go.IntKind.wrap Go.IntKind.i64 ((0 : Int) - (Go.IntKind.wrap Go.IntKind.i64 y296.1.2.2.1))), Bool.true, ())
        else
        some ((Go.IntKind.wrap Go.IntKind.i64 y296.1.2.2.1), Bool.true, ())
      | .inr y394 =>
        bif (!y394.1.1) then
          none
        else
        bif (Go.Iv.ile (9223372036854775808 : Int) y296.1.2.2.1) then
          none
        else
        bif y4.2.1 then
          some ((Go.IntKind.wrap Go.IntKind.i64 ((0 : Int) - (Go.IntKind.wrap Go.IntKind.i64 y296.1.2.2.1))), Bool.true, ())
        else
        some ((Go.IntKind.wrap Go.IntKind.i64 y296.1.2.2.1), Bool.true, ())
  else
  bif (Go.Iv.ile (9223372036854775808 : Int) y296.1.2.2.1) then
    none
  else
  bif y4.2.1 then
    some ((Go.IntKind.wrap Go.IntKind.i64 ((0 : Int) - (Go.IntKind.wrap Go.IntKind.i64 y296.1.2.2.1))), Bool.true, ())
  else
  some ((Go.IntKind.wrap Go.IntKind.i64 y296.1.2.2.1), Bool.true, ())
  else none
noncomputable def exponent_it : FnIt := ⟨23, [(false, .str)], [(false, (.int .i64)), (false, .bool)], 6, fun n x => exponent n x.1⟩
theorem exponent_ok (n : Nat) : FnOK Go.Proofs.Tryd.prog hint shT exponent_it n :=
  FnOK.of (hk := fun β => (Known.mk [count_it, signed_it] [L90_10_it, L77_36_it, L48_10_it]).hk β) (sh := shT) (fun m _ => KnownOK.hook (((((KnownOK.nil.fn signed_ok).fn count_ok).loop L48_10_ok L48_10_T_ok).loop L77_36_ok L77_36_T_ok).loop L90_10_ok L90_10_T_ok) m) (fun x => by kernel_rfl)

noncomputable def named (n : Nat) (s : List UInt8) : Option ((Bool × (List UInt8 × (Int × Int))) × (Bool × Unit)) :=
  bif (s == ([(46 : UInt8), (110 : UInt8), (97 : UInt8), (110 : UInt8)] : List UInt8)) then
    some ((Bool.false, (([] : List UInt8), ((0 : Int), (2 : Int)))), Bool.true, ())
  else
  bif (s == ([(46 : UInt8), (78 : UInt8), (97 : UInt8), (78 : UInt8)] : List UInt8)) then
    some ((Bool.false, (([] : List UInt8), ((0 : Int), (2 : Int)))), Bool.true, ())
  else
  bif (s == ([(46 : UInt8), (78 : UInt8), (65 : UInt8), (78 : UInt8)] : List UInt8)) then
    some ((Bool.false, (([] : List UInt8), ((0 : Int), (2 : Int)))), Bool.true, ())
  else
  Option.bind (signed n s) fun y0 =>
  bif (y0.1 == ([(46 : UInt8), (105 : UInt8), (110 : UInt8), (102 : UInt8)] : List UInt8)) then
    some ((y0.2.1, (([] : List UInt8), ((0 : Int), (1 : Int)))), Bool.true, ())
  else
  bif (y0.1 == ([(46 : UInt8), (73 : UInt8), (110 : UInt8), (102 : UInt8)] : List UInt8)) then
    some ((y0.2.1, (([] : List UInt8), ((0 : Int), (1 : Int)))), Bool.true, ())
  else
  bif (y0.1 == ([(46 : UInt8), (73 : UInt8), (78 : UInt8), (70 : UInt8)] : List UInt8)) then
    some ((y0.2.1, (([] : List UInt8), ((0 : Int), (1 : Int)))), Bool.true, ())
  else
  some ((Bool.false, (([] : List UInt8), ((0 : Int), (0 : Int)))), Bool.false, ())
noncomputable def named_it : FnIt := ⟨19, [(false, .str)], [(true, (.cons .bool (.cons .str (.cons (.int .i64) (.int .i64))))), (false, .bool)], 4, fun n x => named n x.1⟩
theorem named_ok (n : Nat) : FnOK Go.Proofs.Tryd.prog hint shT named_it n :=
  FnOK.of (hk := fun β => (Known.mk [signed_it] []).hk β) (sh := shT) (fun m _ => KnownOK.hook (KnownOK.nil.fn signed_ok) m) (fun x => by kernel_rfl)

noncomputable def float (n : Nat) (s : List UInt8) : Option ((Bool × (List UInt8 × (Int × Int))) × (Bool × Unit)) :=
  Option.bind (named (n + 2) s) fun y0 =>
  bif y0.2.1 then
    some ((y0.1.1, (y0.1.2.1, (y0.1.2.2.1, y0.1.2.2.2))), Bool.true, ())
  else
  Option.bind (signed (n + 3) s) fun y1 =>
  Option.bind (count (n + 5) y1.1) fun y2 =>
  bif ((Go.Iv.ile (0 : Int) y2.1) && (Go.Iv.ile y2.1 (len y1.1))) then
  bif ((Go.Iv.ile (0 : Int) y2.1) && (Go.Iv.ile y2.1 (len y1.1))) then
  Option.bind (hasPrefix (n + 5) (List.take ((List.length y1.1) - (Int.toNat y2.1)) (List.drop (Int.toNat y2.1) y1.1)) ([(46 : UInt8)] : List UInt8)) fun y3 =>
  bif y3.1 then
    bif (Go.Iv.ile (1 : Int) (len (List.take ((List.length y1.1) - (Int.toNat y2.1)) (List.drop (Int.toNat y2.1) y1.1)))) then
    Option.bind (count (n + 5) (List.take ((List.length (List.take ((List.length y1.1) - (Int.toNat y2.1)) (List.drop (Int.toNat y2.1) y1.1))) - 1) (List.drop 1 (List.take ((List.length y1.1) - (Int.toNat y2.1)) (List.drop (Int.toNat y2.1) y1.1))))) fun y4 =>
    bif ((Go.Iv.ile (0 : Int) (Go.IntKind.wrap Go.IntKind.i64 ((1 : Int) + y4.1))) && (Go.Iv.ile (Go.IntKind.wrap Go.IntKind.i64 ((1 : Int) + y4.1)) (len (List.take ((List.length y1.1) - (Int.toNat y2.1)) (List.drop (Int.toNat y2.1) y1.1))))) then
    bif (Go.Iv.ile (1 : Int) (((Int.toNat (Go.IntKind.wrap Go.IntKind.i64 ((1 : Int) + y4.1))) : Nat) : Int)) then
    bif ((Go.Iv.ile (0 : Int) (Go.IntKind.wrap Go.IntKind.i64 ((1 : Int) + y4.1))) && (Go.Iv.ile (Go.IntKind.wrap Go.IntKind.i64 ((1 : Int) + y4.1)) (len (List.take ((List.length y1.1) - (Int.toNat y2.1)) (List.drop (Int.toNat y2.1) y1.1))))) then
    Option.bind (exponent n (List.take ((List.length (List.take ((List.length y1.1) - (Int.toNat y2.1)) (List.drop (Int.toNat y2.1) y1.1))) - (Int.toNat (Go.IntKind.wrap Go.IntKind.i64 ((1 : Int) + y4.1)))) (List.drop (Int.toNat (Go.IntKind.wrap Go.IntKind.i64 ((1 : Int) + y4.1))) (List.take ((List.length y1.1) - (Int.toNat y2.1)) (List.drop (Int.toNat y2.1) y1.1))))) fun y5 =>
    Option.bind (bif (!y5.2.1) then
        some Bool.true
      else
      bif ((List.take ((Int.toNat y2.1) - 0) (List.drop 0 y1.1)) == ([] : List UInt8)) then
        bif ((List.take ((Int.toNat (Go.IntKind.wrap Go.IntKind.i64 ((1 : Int) + y4.1))) - 1) (List.drop 1 (List.take ((List.length y1.1) - (Int.toNat y2.1)) (List.drop (Int.toNat y2.1) y1.1)))) == ([] : List UInt8)) then
          some Bool.true
        else
        some (Go.Iv.ilt (5000 : Int) (Go.IntKind.wrap Go.IntKind.i64 ((len (List.take ((Int.toNat y2.1) - 0) (List.drop 0 y1.1))) + (len (List.take ((Int.toNat (Go.IntKind.wrap Go.IntKind.i64 ((1 : Int) + y4.1))) - 1) (List.drop 1 (List.take ((List.length y1.1) - (Int.toNat y2.1)) (List.drop (Int.toNat y2.1) y1.1))))))))
      else
      some (Go.Iv.ilt (5000 : Int) (Go.IntKind.wrap Go.IntKind.i64 ((len (List.take ((Int.toNat y2.1) - 0) (List.drop 0 y1.1))) + (len (List.take ((Int.toNat (Go.IntKind.wrap Go.IntKind.i64 ((1 : Int) + y4.1))) - 1) (List.drop 1 (List.take ((List.length y1.1) - (Int.toNat y2.1)) (List.drop (Int.toNat y2.1) y1.1))))))))) fun b7 =>
    bif b7 then
      some ((Bool.false, (([] : List UInt8), ((0 : Int), (0 : Int)))), Bool.false, ())
    else
    bif (room ((List.length (List.take ((Int.toNat y2.1) - 0) (List.drop 0 y1.1))) + (List.length (List.take ((Int.toNat (Go.IntKind.wrap Go.IntKind.i64 ((1 : Int) + y4.1))) - 1) (List.drop 1 (List.take ((List.length y1.1) - (Int.toNat y2.1)) (List.drop (Int.toNat y2.1) y1.1))))))) then
    Option.bind (whole (n + 3) y1.2.1 ((List.take ((Int.toNat y2.1) - 0) (List.drop 0 y1.1)) ++ (List.take ((Int.toNat (Go.IntKind.wrap Go.IntKind.i64 ((1 : Int) + y4.1))) - 1) (List.drop 1 (List.take ((List.length y1.1) - (Int.toNat y2.1)) (List.drop (Int.toNat y2.1) y1.1))))) (Go.IntKind.wrap Go.IntKind.i64 (y5.1 - (len (List.take ((Int.toNat (Go.IntKind.wrap Go.IntKind.i64 ((1 : Int) + y4.1))) - 1) (List.drop 1 (List.take ((List.length y1.1) - (Int.toNat y2.1)) (List.drop (Int.toNat y2.1) y1.1)))))))) fun y8 =>
    some ((y8.1.1, (y8.1.2.1, (y8.1.2.2.1, y8.1.2.2.2))), Bool.true, ())
    else none
    else none
    else none
    else none
    else none
  else
  Option.bind (exponent n (List.take ((List.length y1.1) - (Int.toNat y2.1)) (List.drop (Int.toNat y2.1) y1.1))) fun y9 =>
  Option.bind (bif (!y9.2.1) then
      some Bool.true
    else
    bif ((List.take ((Int.toNat y2.1) - 0) (List.drop 0 y1.1)) == ([] : List UInt8)) then
      some Bool.true
    else
    some (Go.Iv.ilt (5000 : Int) (Go.IntKind.wrap Go.IntKind.i64 ((len (List.take ((Int.toNat y2.1) - 0) (List.drop 0 y1.1))) + (0 : Int))))) fun b11 =>
  bif b11 then
    some ((Bool.false, (([] : List UInt8), ((0 : Int), (0 : Int)))), Bool.false, ())
  else
  bif (room ((List.length (List.take ((Int.toNat y2.1) - 0) (List.drop 0 y1.1))) + (List.length ([] : List UInt8)))) then
  Option.bind (whole (n + 3) y1.2.1 ((List.take ((Int.toNat y2.1) - 0) (List.drop 0 y1.1)) ++ ([] : List UInt8)) (Go.IntKind.wrap Go.IntKind.i64 (y9.1 - (0 : Int)))) fun y12 =>
  some ((y12.1.1, (y12.1.2.1, (y12.1.2.2.1, y12.1.2.2.2))), Bool.true, ())
  else none
  else none
  else none
noncomputable def float_it : FnIt := ⟨9, [(false, .str)], [(true, (.cons .bool (.cons .str (.cons (.int .i64) (.int .i64))))), (false, .bool)], 7, fun n x => float n x.1⟩
theorem float_ok (n : Nat) : FnOK Go.Proofs.Tryd.prog hint shT float_it n :=
  FnOK.of (hk := fun β => (Known.mk [whole_it, exponent_it, hasPrefix_it, count_it, signed_it, named_it] []).hk β) (sh := shT) (fun m _ => KnownOK.hook ((((((KnownOK.nil.fn named_ok).fn signed_ok).fn count_ok).fn hasPrefix_ok).fn exponent_ok).fn whole_ok) m) (fun x => by kernel_rfl)


end Go.Proofs.YtpobfjjmnemioaaDoor

/- Law 5: exponents. -/
namespace Go.Proofs.YtpobfjjmnemioaaDoor
open Go Go.Iv Go.Gv
set_option linter.unusedSimpArgs false
set_option linter.unusedVariables false
set_option maxRecDepth 20000

def vf : Int → List UInt8 → Int
  | a, [] => a
  | a, c :: r => vf (a * 10 + (ub c - 48)) r
def allg : List UInt8 → Bool
  | [] => true
  | c :: r => dig c && allg r
theorem run_all : ∀ (d : List UInt8), ((run d).length = d.length) ↔ allg d = true
  | [] => ⟨fun _ => rfl, fun _ => rfl⟩
  | c :: r => by
    have ih := run_all r
    unfold run at ih ⊢
    simp only [List.takeWhile, allg]
    cases dig c with
    | false => simp
    | true => simp only [List.length_cons, Bool.true_and, ← ih]; omega
theorem run_id (d : List UInt8) (h : allg d = true) : run d = d := by
  have := (run_all d).2 h
  have h2 := run_take d
  rw [this, List.take_length] at h2
  exact h2.symm
theorem dig_ub (c : UInt8) (h : dig c = true) : 48 ≤ ub c ∧ ub c ≤ 57 := by
  unfold dig at h; unfold ub
  rw [Bool.and_eq_true, Nat.ble_eq, Nat.ble_eq] at h; omega
theorem allg_get : ∀ (d : List UInt8), allg d = true → ∀ (i : Nat) (h : i < d.length), dig d[i] = true
  | [], _, i, h => by simp at h
  | c :: r, ha, i, h => by
    simp only [allg, Bool.and_eq_true] at ha
    cases i with
    | zero => exact ha.1
    | succ i => exact allg_get r ha.2 i (by simpa using h)
theorem sub48 (c : UInt8) (h : dig c = true) : ub (c - 48) = ub c - 48 := by
  have hb := dig_ub c h
  unfold ub at hb ⊢
  have e : (48 : UInt8) ≤ c := by rw [UInt8.le_iff_toNat_le]; show 48 ≤ c.toNat; omega
  rw [UInt8.toNat_sub_of_le _ _ e]
  show ((c.toNat - 48 : Nat) : Int) = (c.toNat : Int) - 48
  omega
theorem pow9 (i : Nat) (h : i ≤ 8) : (10 : Int) ^ i ≤ 100000000 ∧ (1 : Int) ≤ 10 ^ i ∧ (10 : Int) ^ (i + 1) = 10 ^ i * 10 := by
  refine ⟨?_, ?_, Int.pow_succ ..⟩
  · have := Nat.pow_le_pow_right (show 0 < 10 by decide) h
    have e : ((10 ^ i : Nat) : Int) = 10 ^ i := by norm_cast
    rw [← e]; omega
  · have : 0 < 10 ^ i := Nat.pow_pos (show 0 < 10 by decide)
    have e : ((10 ^ i : Nat) : Int) = 10 ^ i := by norm_cast
    rw [← e]; omega
theorem val_loop (t d : List UInt8) (ha : allg d = true) (hl : d.length ≤ 9) : ∀ (m i n : Nat) (a : Int), i + m = d.length → 0 ≤ a ∧ a < 10 ^ i → m + 1 ≤ n →
    L48_10 n t a d (len d) (i : Int) = some ((t, (vf a (d.drop i), ())), ()) := by
  intro m
  induction m with
  | zero =>
    intro i n a h hb hn
    obtain ⟨n, rfl⟩ : ∃ k, n = k + 1 := ⟨n - 1, by omega⟩
    simp only [L48_10, len, ilt_f (show ((d.length : Nat) : Int) ≤ (i : Int) by omega), cond_false, List.drop_eq_nil_of_le (show d.length ≤ i by omega), vf]
  | succ m ih =>
    intro i n a h hb hn
    obtain ⟨n, rfl⟩ : ∃ k, n = k + 1 := ⟨n - 1, by omega⟩
    have hi : i < d.length := by omega
    have hd := allg_get d ha i hi
    have hu := dig_ub _ hd
    obtain ⟨p1, p2, p3⟩ := pow9 i (by omega)
    have w : IntKind.wrap .i64 ((i : Int) + 1) = ((i + 1 : Nat) : Int) := by rw [wrap_id] <;> omega
    have w1 : IntKind.wrap .i64 (IntKind.wrap .i64 (a * 10) + IntKind.wrap .i64 (ub (d[i] - 48))) = a * 10 + (ub d[i] - 48) := by
      rw [ub_wrap, sub48 _ hd, wrap_id (x := a * 10), wrap_id] <;> omega
    have q : Nat.blt (UInt8.toNat 9) (UInt8.toNat (d[i] - 48)) = false := by
      have := sub48 _ hd
      unfold ub at this hu
      have e : UInt8.toNat 9 = 9 := rfl
      rw [e]
      cases hq : Nat.blt 9 (UInt8.toNat (d[i] - 48)) with
      | false => rfl
      | true =>
        have := Nat.le_of_ble_eq_true hq
        omega
    have ih := ih (i + 1) n (a * 10 + (ub d[i] - 48)) (by omega) (by rw [p3]; omega) (by omega)
    rw [List.drop_eq_getElem_cons hi]
    unfold len at ih ⊢
    simp only [L48_10, ilt_t (show (i : Int) < ((d.length : Nat) : Int) by omega), ile_t (show (0 : Int) ≤ (i : Int) by omega), cond_true, Int.toNat_natCast, List.getElem?_eq_getElem hi, Option.bind_some, w, w1, q, cond_false, vf, ih]
theorem vf_bound (d : List UInt8) : ∀ (a : Int) (i : Nat), allg d = true → i + d.length ≤ 9 → 0 ≤ a ∧ a < 10 ^ i → 0 ≤ vf a d ∧ vf a d < 1000000000 := by
  induction d with
  | nil =>
    intro a i _ h hb
    simp only [vf]
    rw [List.length_nil] at h
    have := Nat.pow_le_pow_right (show 0 < 10 by decide) h
    have e : ((10 ^ i : Nat) : Int) = 10 ^ i := by norm_cast
    rw [← e] at hb
    simp only [Nat.add_zero] at this
    omega
  | cons c r ih =>
    intro a i ha h hb
    simp only [allg, Bool.and_eq_true] at ha
    rw [List.length_cons] at h
    have hu := dig_ub _ ha.1
    obtain ⟨p1, p2, p3⟩ := pow9 i (by omega)
    exact ih _ (i + 1) ha.2 (by omega) (by rw [p3]; omega)

def okx (d : List UInt8) : Bool := !d.isEmpty && (Nat.ble d.length 9 && allg d)
def ex : List UInt8 → Int × Bool
  | [] => (0, true)
  | c :: r => bif c != 101 && c != 69 then (0, false) else bif okx (sgn r).1 then (bif (sgn r).2 then -(vf 0 (sgn r).1) else vf 0 (sgn r).1, true) else (0, false)
theorem ex_bound (s : List UInt8) : -1000000000 ≤ (ex s).1 ∧ (ex s).1 ≤ 1000000000 := by
  cases s with
  | nil => simp [ex]
  | cons c r =>
    simp only [ex]
    cases (c != 101 && c != 69) with
    | true => simp
    | false =>
      cases h : okx (sgn r).1 with
      | false => simp
      | true =>
        unfold okx at h
        rw [Bool.and_eq_true, Bool.and_eq_true, Nat.ble_eq] at h
        have := vf_bound (sgn r).1 0 0 h.2.2 (by omega) (by simp)
        cases (sgn r).2 <;> simp only [cond_true, cond_false] <;> omega
theorem exponent_spec (n : Nat) (s : List UInt8) (hs : s.length ≤ 100000) (hn : s.length + 20 ≤ n) : exponent n s = some ((ex s).1, (ex s).2, ()) := by
  cases s with
  | nil => rfl
  | cons c r =>
    unfold exponent
    have e0 : ((c :: r) == ([] : List UInt8)) = false := rfl
    have e1 : (Option.bind ((c :: r)[0]?) fun x1 => bif (x1 != (101 : UInt8)) then Option.bind ((c :: r)[0]?) fun x2 => some (x2 != (69 : UInt8)) else some Bool.false) = some (c != 101 && c != 69) := by
      show (bif c != 101 then some (c != 69) else some false) = _
      cases c != 101 <;> rfl
    have hsl := sgn_len r
    rw [e0, cond_false, e1, Option.bind_some]
    simp only [ex]
    cases (c != 101 && c != 69) with
    | true => rfl
    | false =>
      rw [cond_false, cond_false, ile_t (show (1 : Int) ≤ len (c :: r) by simp only [len, List.length_cons]; omega), cond_true, take_all]
      show Option.bind (signed (n + 2) r) _ = _
      rw [signed_spec, Option.bind_some]
      simp only [List.length_cons] at hs hn
      generalize hd : (sgn r).1 = d at *
      generalize (sgn r).2 = b at *
      rw [beq_nil]
      cases he : d.isEmpty with
      | true => rw [isEmpty_eq he]; rfl
      | false =>
        have hpos : 0 < d.length := by
          cases d with
          | nil => cases he
          | cons => simp
        rw [cond_false]
        by_cases h9 : 9 < d.length
        · have : okx d = false := by
            unfold okx
            have : Nat.ble d.length 9 = false := by
              cases hq : Nat.ble d.length 9 with
              | false => rfl
              | true => have := Nat.le_of_ble_eq_true hq; omega
            rw [this]; simp
          rw [ilt_t (show 9 < len d by unfold len; omega), cond_true, this]; rfl
        rw [ilt_f (show len d ≤ 9 by unfold len; omega), cond_false, count_spec (n + 4) d (by omega) (by omega), Option.bind_some]
        have h9' : Nat.ble d.length 9 = true := Nat.ble_eq_true_of_le (by omega)
        cases ha : allg d with
        | false =>
          have h1 : ¬ ((run d).length = d.length) := fun h => by
            have := (run_all d).1 h
            rw [ha] at this; cases this
          have h2 : (((run d).length : Int) != len d) = true := by
            rw [bne_iff_ne]; unfold len; omega
          have : okx d = false := by unfold okx; rw [ha]; simp
          rw [h2, cond_true, this]; rfl
        | true =>
          have h2 : (((run d).length : Int) != len d) = false := by
            rw [(run_all d).2 ha]; unfold len; simp
          have : okx d = true := by unfold okx; rw [ha, he, h9']; rfl
          rw [h2, cond_false, this, ilt_t (show 0 < len d by unfold len; omega), ilt_t (show len d < 19 by unfold len; omega), cond_true, Option.bind_some, cond_true]
          have hg : d[0]? = some d[0] := List.getElem?_eq_getElem hpos
          have hd0 := dig_ub _ (allg_get d ha 0 hpos)
          have n45 : (d[0] == 45) = false := by
            rw [beq_eq_false_iff_ne]; intro h; rw [h] at hd0; exact absurd hd0.1 (by decide)
          have n43 : (d[0] == 43) = false := by
            rw [beq_eq_false_iff_ne]; intro h; rw [h] at hd0; exact absurd hd0.1 (by decide)
          have hv := val_loop d d ha (by omega) d.length 0 (n + 4) 0 (by omega) (by simp) (by omega)
          rw [List.drop_zero] at hv
          rw [hg, Option.bind_some, n45, cond_false, Option.bind_some, n43, Option.bind_some, cond_false]
          rw [show L48_10 (n + 4) d (0 : Int) d (len d) (0 : Int) = _ from hv, Option.bind_some]
          simp only [hg, Option.bind_some, n45, cond_false]
          have hb := vf_bound d 0 0 ha (by omega) (by simp)
          have w : IntKind.wrap .i64 ((0 : Int) - vf 0 d) = -(vf 0 d) := by rw [wrap_id] <;> omega
          rw [w]
          cases b <;> rfl
end Go.Proofs.YtpobfjjmnemioaaDoor
#print axioms Go.Proofs.YtpobfjjmnemioaaDoor.exponent_spec

/- Law 5: floats. -/
namespace Go.Proofs.YtpobfjjmnemioaaDoor
open Go Go.Iv Go.Gv
set_option linter.unusedSimpArgs false
set_option linter.unusedVariables false
set_option maxRecDepth 20000

def isNan (s : List UInt8) : Bool := s == [46, 110, 97, 110] || (s == [46, 78, 97, 78] || s == [46, 78, 65, 78])
def isInf (s : List UInt8) : Bool := s == [46, 105, 110, 102] || (s == [46, 73, 110, 102] || s == [46, 73, 78, 70])
def nanv : Num × (Bool × Unit) := ((false, ([], (0, 2))), (true, ()))
def infv (b : Bool) : Num × (Bool × Unit) := ((b, ([], (0, 1))), (true, ()))
def tail (w p v : List UInt8) (b : Bool) : Num × (Bool × Unit) :=
  bif !(ex v).2 || ((w.isEmpty && p.isEmpty) || ilt 5000 (len w + len p)) then no else (norm b (w ++ p) ((ex v).1 - len p), (true, ()))
def num (t : List UInt8) (b : Bool) : Num × (Bool × Unit) :=
  bif pre [46] (t.drop (run t).length) then tail (run t) (run (t.drop ((run t).length + 1))) (t.drop ((run t).length + 1 + (run (t.drop ((run t).length + 1))).length)) b
  else tail (run t) [] (t.drop (run t).length) b
def fl (s : List UInt8) : Num × (Bool × Unit) := bif isNan s then nanv else bif isInf (sgn s).1 then infv (sgn s).2 else num (sgn s).1 (sgn s).2

theorem named_spec (n : Nat) (s : List UInt8) : named n s = some (bif isNan s then nanv else bif isInf (sgn s).1 then infv (sgn s).2 else no) := by
  unfold named isNan isInf
  rw [signed_spec]
  simp only [Option.bind_some]
  cases s == [46, 110, 97, 110] <;> cases s == [46, 78, 97, 78] <;> cases s == [46, 78, 65, 78] <;> cases (sgn s).1 == [46, 105, 110, 102] <;> cases (sgn s).1 == [46, 73, 110, 102] <;> cases (sgn s).1 == [46, 73, 78, 70] <;> rfl

theorem tail_prog (n : Nat) (w p v : List UInt8) (b : Bool) (hw : w.length ≤ 6000) (hp : p.length ≤ 6000) (hn : 20000 ≤ n) :
    (Option.bind (bif (!(ex v).2) then
        some Bool.true
      else
      bif (w == ([] : List UInt8)) then
        bif (p == ([] : List UInt8)) then
          some Bool.true
        else
        some (Go.Iv.ilt (5000 : Int) (Go.IntKind.wrap Go.IntKind.i64 (len w + len p)))
      else
      some (Go.Iv.ilt (5000 : Int) (Go.IntKind.wrap Go.IntKind.i64 (len w + len p)))) fun b7 =>
    bif b7 then
      some no
    else
    bif (room (w.length + p.length)) then
    Option.bind (whole (n + 3) b (w ++ p) (Go.IntKind.wrap Go.IntKind.i64 ((ex v).1 - len p))) fun y8 =>
    some ((y8.1.1, (y8.1.2.1, (y8.1.2.2.1, y8.1.2.2.2))), Bool.true, ())
    else none) = some (tail w p v b) := by
  have hb := ex_bound v
  have w1 : IntKind.wrap .i64 (len w + len p) = len w + len p := by unfold len; rw [wrap_id] <;> omega
  have w2 : IntKind.wrap .i64 ((ex v).1 - len p) = (ex v).1 - len p := by unfold len; rw [wrap_id] <;> omega
  rw [beq_nil, beq_nil, w1, w2, whole_spec (n + 3) b (w ++ p) _ (by unfold len; omega) (by unfold len; omega) (by simp; omega) (by simp; omega), roomle (show w.length + p.length ≤ 1000000 by omega)]
  unfold tail
  cases (ex v).2 <;> cases w.isEmpty <;> cases p.isEmpty <;> cases ilt 5000 (len w + len p) <;> rfl

theorem float_spec (n : Nat) (s : List UInt8) (hs : s.length ≤ 6000) (hn : 20000 ≤ n) : float n s = some (fl s) := by
  unfold float fl
  rw [named_spec, Option.bind_some]
  cases hnan : isNan s with
  | true => rfl
  | false =>
    simp only [cond_false]
    cases hinf : isInf (sgn s).1 with
    | true => rfl
    | false =>
      simp only [cond_false, no]
      rw [signed_spec]
      simp only [Option.bind_some, take_all, Nat.sub_zero, List.drop_zero]
      have hsl := sgn_len s
      generalize (sgn s).1 = t at *
      generalize (sgn s).2 = b at *
      have hr := run_len t
      rw [count_spec (n + 5) t (by omega) (by omega)]
      simp only [Option.bind_some, len, Int.toNat_natCast, ile_t (show (0 : Int) ≤ ((run t).length : Nat) by omega), ile_t (show (((run t).length : Nat) : Int) ≤ (t.length : Nat) by omega), Bool.and_self, cond_true, hasPrefix_spec, run_take, take_all]
      unfold num
      cases hp : pre [46] (t.drop (run t).length) with
      | false =>
        simp only [cond_false]
        rw [exponent_spec n _ (by simp; omega) (by simp; omega)]
        simp only [Option.bind_some]
        have := tail_prog n (run t) [] (t.drop (run t).length) b (by omega) (by simp) hn
        exact this
      | true =>
        have hpl := pre_len _ _ hp
        simp only [List.length_drop, List.length_singleton] at hpl
        have hr2 := run_len (t.drop ((run t).length + 1))
        rw [List.length_drop] at hr2
        simp only [cond_true, List.length_drop, ile_t (show (1 : Int) ≤ ((t.length - (run t).length : Nat) : Int) by omega), List.drop_drop]
        rw [count_spec (n + 5) _ (by simp; omega) (by simp; omega)]
        have w : IntKind.wrap .i64 ((1 : Int) + ((run (t.drop ((run t).length + 1))).length : Nat)) = ((1 + (run (t.drop ((run t).length + 1))).length : Nat) : Int) := by rw [wrap_id] <;> omega
        simp only [Option.bind_some, w, Int.toNat_natCast, ile_t (show (0 : Int) ≤ ((1 + (run (t.drop ((run t).length + 1))).length : Nat) : Int) by omega), ile_t (show (1 : Int) ≤ ((1 + (run (t.drop ((run t).length + 1))).length : Nat) : Int) by omega),
          ile_t (show ((1 + (run (t.drop ((run t).length + 1))).length : Nat) : Int) ≤ ((t.length - (run t).length : Nat) : Int) by omega), Bool.and_self, cond_true]
        have e1 : (run t).length + (1 + (run (t.drop ((run t).length + 1))).length) = (run t).length + 1 + (run (t.drop ((run t).length + 1))).length := by omega
        have e2 : List.take (1 + (run (t.drop ((run t).length + 1))).length - 1) (List.drop ((run t).length + 1) t) = run (t.drop ((run t).length + 1)) := by
          rw [Nat.add_sub_cancel_left, run_take]
        rw [e1, e2, exponent_spec n _ (by simp; omega) (by simp; omega)]
        simp only [Option.bind_some]
        exact tail_prog n (run t) (run (t.drop ((run t).length + 1))) _ b (by omega) (by omega) hn
end Go.Proofs.YtpobfjjmnemioaaDoor
#print axioms Go.Proofs.YtpobfjjmnemioaaDoor.float_spec

/- Law 5: the reference's floats. -/
namespace Go.Proofs.YtpobfjjmnemioaaDoor
open Go Go.Iv Go.Gv
set_option linter.unusedSimpArgs false
set_option linter.unusedVariables false
set_option maxRecDepth 20000

theorem vR_loop (t4 : List UInt8) (t5 : Bool) (t6 t8 : List UInt8) (t11 : Bool) (d : List UInt8) (c0 : Bool) (c1 : List UInt8) (c2 c3 : Int) (ha : allg d = true) (hl : d.length ≤ 9) : ∀ (m i n : Nat) (a : Int), i + m = d.length → 0 ≤ a ∧ a < 10 ^ i → m + 1 ≤ n →
    L17_25 n t4 t5 t6 t8 a t11 d (d.length : Nat) (i : Int) c0 c1 c2 c3 = some (((), (t4, (t5, (t6, (t8, (vf a (d.drop i), (t11, ()))))))), ((c0, (c1, (c2, (c3, ())))), ())) := by
  intro m
  induction m with
  | zero =>
    intro i n a h hb hn
    obtain ⟨n, rfl⟩ : ∃ k, n = k + 1 := ⟨n - 1, by omega⟩
    simp only [L17_25, ilt_f (show ((d.length : Nat) : Int) ≤ (i : Int) by omega), cond_false, List.drop_eq_nil_of_le (show d.length ≤ i by omega), vf]
  | succ m ih =>
    intro i n a h hb hn
    obtain ⟨n, rfl⟩ : ∃ k, n = k + 1 := ⟨n - 1, by omega⟩
    have hi : i < d.length := by omega
    have hd := allg_get d ha i hi
    have hu := dig_ub _ hd
    obtain ⟨p1, p2, p3⟩ := pow9 i (by omega)
    have w : IntKind.wrap .i64 ((i : Int) + 1) = ((i + 1 : Nat) : Int) := by rw [wrap_id] <;> omega
    have w1 : IntKind.wrap .i64 (IntKind.wrap .i64 (IntKind.wrap .i64 (a * 10) + IntKind.wrap .i64 (ub d[i])) - 48) = a * 10 + (ub d[i] - 48) := by
      rw [ub_wrap, wrap_id (x := a * 10), wrap_id (x := a * 10 + ub d[i]), wrap_id] <;> omega
    have ih := ih (i + 1) n (a * 10 + (ub d[i] - 48)) (by omega) (by rw [p3]; omega) (by omega)
    rw [List.drop_eq_getElem_cons hi]
    simp only [L17_25, ilt_t (show (i : Int) < ((d.length : Nat) : Int) by omega), ile_t (show (0 : Int) ≤ (i : Int) by omega), cond_true, Int.toNat_natCast, List.getElem?_eq_getElem hi, Option.bind_some, w, w1, vf, ih]

def isE : List UInt8 → Bool
  | [] => false
  | c :: _ => c == 101 || c == 69
theorem at_dot (t : List UInt8) (i : Nat) : (bif ilt (i : Int) (len t) then
      bif ile (0 : Int) (i : Int) then
      Option.bind (t[(Int.toNat (i : Int))]?) fun x3 => some (x3 == (46 : UInt8))
      else none
    else some Bool.false) = some (pre [46] (t.drop i)) := by
  by_cases h : i < t.length
  · rw [ilt_t (show (i : Int) < len t by unfold len; omega), cond_true, ile_t (show (0 : Int) ≤ (i : Int) by omega), cond_true, Int.toNat_natCast, List.getElem?_eq_getElem h, Option.bind_some, List.drop_eq_getElem_cons h, pre1]
  · rw [ilt_f (show len t ≤ (i : Int) by unfold len; omega), cond_false, List.drop_eq_nil_of_le (by omega)]; rfl
theorem at_e (t : List UInt8) (i : Nat) : (bif ilt (i : Int) (len t) then
        bif ile (0 : Int) (i : Int) then
        Option.bind (t[(Int.toNat (i : Int))]?) fun x9 =>
        bif (x9 == (101 : UInt8)) then
          some Bool.true
        else
        bif ile (0 : Int) (i : Int) then
        Option.bind (t[(Int.toNat (i : Int))]?) fun x10 =>
        some (x10 == (69 : UInt8))
        else none
        else none
      else
      some Bool.false) = some (isE (t.drop i)) := by
  by_cases h : i < t.length
  · rw [ilt_t (show (i : Int) < len t by unfold len; omega), cond_true, ile_t (show (0 : Int) ≤ (i : Int) by omega), cond_true, Int.toNat_natCast, List.getElem?_eq_getElem h, Option.bind_some, List.drop_eq_getElem_cons h]
    simp only [cond_true, Option.bind_some, isE]
    cases t[i] == 101 <;> rfl
  · rw [ilt_f (show len t ≤ (i : Int) by unfold len; omega), cond_false, List.drop_eq_nil_of_le (by omega)]; rfl
theorem at_ok (d : List UInt8) : (bif (((run d).length : Int) != len d) then
        some Bool.true
      else
      bif (Go.Iv.ilt ((run d).length : Int) (1 : Int)) then
        some Bool.true
      else
      some (Go.Iv.ilt (9 : Int) ((run d).length : Int))) = some (!okx d) := by
  cases ha : allg d with
  | false =>
    have h1 : ¬ ((run d).length = d.length) := fun h => by
      have := (run_all d).1 h
      rw [ha] at this; cases this
    have h2 : (((run d).length : Int) != len d) = true := by
      rw [bne_iff_ne]; unfold len; omega
    have : okx d = false := by unfold okx; rw [ha]; simp
    rw [h2, this]; rfl
  | true =>
    have h2 : (((run d).length : Int) != len d) = false := by
      rw [(run_all d).2 ha]; unfold len; simp
    rw [h2, run_id d ha]
    unfold okx
    rw [ha, Bool.and_true, cond_false]
    cases d with
    | nil => rfl
    | cons c r =>
      rw [ilt_f (show (1 : Int) ≤ ((c :: r).length : Nat) by simp only [List.length_cons]; omega), cond_false]
      by_cases h9 : (c :: r).length ≤ 9
      · rw [ilt_f (show (((c :: r).length : Nat) : Int) ≤ 9 by omega), Nat.ble_eq_true_of_le h9]; rfl
      · have : Nat.ble (c :: r).length 9 = false := by
          cases hq : Nat.ble (c :: r).length 9 with
          | false => rfl
          | true => exact absurd (Nat.le_of_ble_eq_true hq) h9
        rw [ilt_t (show 9 < (((c :: r).length : Nat) : Int) by omega), this]; rfl
/-- The exponent's part of the reference. -/
theorem ex_e (v : List UInt8) (h : isE v = true) : ∃ c r, v = c :: r ∧ ex v = (bif okx (sgn r).1 then (bif (sgn r).2 then -(vf 0 (sgn r).1) else vf 0 (sgn r).1, true) else (0, false)) := by
  cases v with
  | nil => cases h
  | cons c r =>
    refine ⟨c, r, rfl, ?_⟩
    have : (c != 101 && c != 69) = false := by
      simp only [isE] at h
      rw [bne, bne]
      cases h1 : c == 101 <;> cases h2 : c == 69 <;> rw [h1, h2] at h <;> first | rfl | cases h
    simp only [ex, this, cond_false]
theorem ex_n (v : List UInt8) (h : isE v = false) : ex v = (0, v.isEmpty) := by
  cases v with
  | nil => rfl
  | cons c r =>
    have : (c != 101 && c != 69) = true := by
      simp only [isE] at h
      rw [bne, bne]
      cases h1 : c == 101 <;> cases h2 : c == 69 <;> rw [h1, h2] at h <;> first | rfl | cases h
    simp only [ex, this, cond_true, List.isEmpty_cons]
theorem tidy_ref (n : Nat) (w p : List UInt8) (b : Bool) (e : Int) (he : -1000000000 ≤ e ∧ e ≤ 1000000000) (hw : w.length ≤ 6000) (hp : p.length ≤ 6000) (hn : 20000 ≤ n) :
    (bif (room (w.length + p.length)) then
      Option.bind (tidyR n b (w ++ p) (Go.IntKind.wrap Go.IntKind.i64 (e - len p))) fun y20 =>
      some ((y20.1.1, (y20.1.2.1, (y20.1.2.2.1, y20.1.2.2.2))), Bool.true, ())
      else none) = some (norm b (w ++ p) (e - len p), true, ()) := by
  have w2 : IntKind.wrap .i64 (e - len p) = e - len p := by unfold len; rw [wrap_id] <;> omega
  rw [w2, tidyR_spec n b (w ++ p) _ (by unfold len; omega) (by unfold len; omega) (by simp; omega) (by simp; omega), roomle (show w.length + p.length ≤ 1000000 by omega)]
  rfl
/-- What stands behind the digits. -/
theorem tail_ref (n : Nat) (t w p : List UInt8) (b : Bool) (j : Nat) (hj : j ≤ t.length) (ht : t.length ≤ 6000) (hw : w.length ≤ 6000) (hp : p.length ≤ 6000) (hn : 20000 ≤ n)
    (hg : ((w.isEmpty && p.isEmpty) || ilt 5000 (len w + len p)) = false) :
    (Option.bind (bif (Go.Iv.ilt (j : Int) (len t)) then
        bif (Go.Iv.ile (0 : Int) (j : Int)) then
        Option.bind (t[(Int.toNat (j : Int))]?) fun x9 =>
        bif (x9 == (101 : UInt8)) then
          some Bool.true
        else
        bif (Go.Iv.ile (0 : Int) (j : Int)) then
        Option.bind (t[(Int.toNat (j : Int))]?) fun x10 =>
        some (x10 == (69 : UInt8))
        else none
        else none
      else
      some Bool.false) fun b11 =>
    bif b11 then
      bif ((Go.Iv.ile (0 : Int) (Go.IntKind.wrap Go.IntKind.i64 ((j : Int) + (1 : Int)))) && (Go.Iv.ile (Go.IntKind.wrap Go.IntKind.i64 ((j : Int) + (1 : Int))) (len t))) then
      Option.bind (signedR n (List.take ((List.length t) - (Int.toNat (Go.IntKind.wrap Go.IntKind.i64 ((j : Int) + (1 : Int))))) (List.drop (Int.toNat (Go.IntKind.wrap Go.IntKind.i64 ((j : Int) + (1 : Int)))) t))) fun y12 =>
      Option.bind (runR n y12.1 (0 : Int)) fun y13 =>
      Option.bind (bif (y13.2.1 != (len y12.1)) then
          some Bool.true
        else
        bif (Go.Iv.ilt y13.2.1 (1 : Int)) then
          some Bool.true
        else
        some (Go.Iv.ilt (9 : Int) y13.2.1)) fun b15 =>
      bif b15 then
        some ((Bool.false, (([] : List UInt8), ((0 : Int), (0 : Int)))), Bool.false, ())
      else
      Option.bind (L17_25 (n + 2) t b w p (0 : Int) y12.2.1 y13.1 y13.2.1 (0 : Int) Bool.false ([] : List UInt8) (0 : Int) (0 : Int)) fun y19 =>
      bif y19.1.2.2.2.2.2.2.1 then
        bif ((len y19.1.2.1) != (len y19.1.2.1)) then
          some ((Bool.false, (([] : List UInt8), ((0 : Int), (0 : Int)))), Bool.false, ())
        else
        bif (room ((List.length y19.1.2.2.2.1) + (List.length y19.1.2.2.2.2.1))) then
        Option.bind (tidyR n y19.1.2.2.1 (y19.1.2.2.2.1 ++ y19.1.2.2.2.2.1) (Go.IntKind.wrap Go.IntKind.i64 ((Go.IntKind.wrap Go.IntKind.i64 ((0 : Int) - y19.1.2.2.2.2.2.1)) - (len y19.1.2.2.2.2.1)))) fun y20 =>
        some ((y20.1.1, (y20.1.2.1, (y20.1.2.2.1, y20.1.2.2.2))), Bool.true, ())
        else none
      else
      bif ((len y19.1.2.1) != (len y19.1.2.1)) then
        some ((Bool.false, (([] : List UInt8), ((0 : Int), (0 : Int)))), Bool.false, ())
      else
      bif (room ((List.length y19.1.2.2.2.1) + (List.length y19.1.2.2.2.2.1))) then
      Option.bind (tidyR n y19.1.2.2.1 (y19.1.2.2.2.1 ++ y19.1.2.2.2.2.1) (Go.IntKind.wrap Go.IntKind.i64 (y19.1.2.2.2.2.2.1 - (len y19.1.2.2.2.2.1)))) fun y21 =>
      some ((y21.1.1, (y21.1.2.1, (y21.1.2.2.1, y21.1.2.2.2))), Bool.true, ())
      else none
      else none
    else
    bif ((j : Int) != (len t)) then
      some ((Bool.false, (([] : List UInt8), ((0 : Int), (0 : Int)))), Bool.false, ())
    else
    bif (room ((List.length w) + (List.length p))) then
    Option.bind (tidyR n b (w ++ p) (Go.IntKind.wrap Go.IntKind.i64 ((0 : Int) - (len p)))) fun y22 =>
    some ((y22.1.1, (y22.1.2.1, (y22.1.2.2.1, y22.1.2.2.2))), Bool.true, ())
    else none) = some (tail w p (t.drop j) b) := by
  rw [at_e, Option.bind_some]
  unfold tail
  rw [hg, Bool.or_false]
  cases hE : isE (t.drop j) with
  | true =>
    obtain ⟨c, r, hv, hx⟩ := ex_e _ hE
    have hjl : j < t.length := by
      have := congrArg List.length hv
      simp only [List.length_drop, List.length_cons] at this; omega
    have hr : t.drop (j + 1) = r := by
      rw [← List.drop_drop, hv]; rfl
    have wj : IntKind.wrap .i64 ((j : Int) + 1) = ((j + 1 : Nat) : Int) := by rw [wrap_id] <;> omega
    have hrl := congrArg List.length hr
    rw [List.length_drop] at hrl
    have hsl := sgn_len r
    rw [cond_true, wj, ile_t (show (0 : Int) ≤ ((j + 1 : Nat) : Int) by omega), ile_t (show ((j + 1 : Nat) : Int) ≤ len t by unfold len; omega), Bool.and_self, cond_true, Int.toNat_natCast, take_all, hr, signedR_spec, Option.bind_some]
    rw [hx]
    generalize (sgn r).1 = d at *
    generalize (sgn r).2 = m at *
    have hrun := runR_spec n d 0 (by omega) (by omega) (by omega)
    rw [List.drop_zero, Nat.zero_add] at hrun
    rw [show (0 : Int) = ((0 : Nat) : Int) from rfl, hrun, Option.bind_some]
    rw [show ((0 : Nat) : Int) = (0 : Int) from rfl, at_ok, Option.bind_some]
    cases ho : okx d with
    | false => rfl
    | true =>
      unfold okx at ho
      rw [Bool.and_eq_true, Bool.and_eq_true, Nat.ble_eq] at ho
      have hb := vf_bound d 0 0 ho.2.2 (by omega) (by simp)
      have hl := vR_loop t b w p m d false [] 0 0 ho.2.2 ho.2.1 d.length 0 (n + 2) 0 (by omega) (by simp) (by omega)
      rw [List.drop_zero] at hl
      have w0 : IntKind.wrap .i64 ((0 : Int) - vf 0 d) = -(vf 0 d) := by rw [wrap_id] <;> omega
      have hne : ∀ x : Int, (x != x) = false := fun x => by simp
      rw [run_id d ho.2.2, Bool.not_true, cond_false]
      rw [show L17_25 (n + 2) t b w p (0 : Int) m d (d.length : Nat) (0 : Int) false [] 0 0 = _ from hl, Option.bind_some]
      simp only [hne, cond_false, w0, cond_true]
      rw [tidy_ref n w p b _ (by omega) hw hp hn, tidy_ref n w p b _ (by omega) hw hp hn]
      cases m <;> rfl
  | false =>
    rw [cond_false, ex_n _ hE]
    by_cases hl : j = t.length
    · have h1 : ((j : Int) != len t) = false := by subst hl; unfold len; simp
      have h2 : (t.drop j).isEmpty = true := by rw [List.drop_eq_nil_of_le (by omega)]; rfl
      rw [h1, cond_false, tidy_ref n w p b 0 (by omega) hw hp hn, h2]
      rfl
    · have h1 : ((j : Int) != len t) = true := by rw [bne_iff_ne]; unfold len; omega
      have h2 : (t.drop j).isEmpty = false := by
        rw [List.drop_eq_getElem_cons (show j < t.length by omega)]; rfl
      rw [h1, h2]; rfl
end Go.Proofs.YtpobfjjmnemioaaDoor
#print axioms Go.Proofs.YtpobfjjmnemioaaDoor.tail_ref

/- Plain functions for the program's. -/
namespace Go.Proofs.YtpobfjjmnemioaaDoor
open Go Go.Iv Go.Gv
set_option maxRecDepth 100000
noncomputable def alive (n : Nat) : Option (Bool × Unit) :=
  Option.bind (float n ([(45 : UInt8), (49 : UInt8), (50 : UInt8), (46 : UInt8), (53 : UInt8), (48 : UInt8)] : List UInt8)) fun y0 =>
  bif y0.2.1 then
    some (((y0.1.1 == Bool.true) && ((y0.1.2.1 == ([(49 : UInt8), (50 : UInt8), (53 : UInt8)] : List UInt8)) && ((y0.1.2.2.1 == (-(1 : Int))) && ((y0.1.2.2.2 == (0 : Int)) && Bool.true)))), ())
  else
  some (Bool.false, ())
noncomputable def alive_it : FnIt := ⟨8, [], [(false, .bool)], 8, fun n _ => alive n⟩
theorem alive_ok (n : Nat) : FnOK Go.Proofs.Tryd.prog hint shT alive_it n :=
  FnOK.of (hk := fun β => (Known.mk [float_it] []).hk β) (sh := shT) (fun m _ => KnownOK.hook (KnownOK.nil.fn float_ok) m) (fun x => by kernel_rfl)

noncomputable def decimalReads (n : Nat) (s : List UInt8) : Option (Bool × Unit) :=
  Option.bind (alive n ) fun y0 =>
  Option.bind (bif (!y0.1) then
      some Bool.true
    else
    bif (Go.Iv.ilt (300 : Int) (len s)) then
      bif (Go.Iv.ilt (len s) (4990 : Int)) then
        some Bool.true
      else
      some (Go.Iv.ilt (5015 : Int) (len s))
    else
    some (Go.Iv.ilt (5015 : Int) (len s))) fun b2 =>
  bif b2 then
    some (y0.1, ())
  else
  Option.bind (int (n + 3) s) fun y3 =>
  Option.bind (intR (n + 5) s) fun y4 =>
  Option.bind (float (n + 1) s) fun y5 =>
  Option.bind (floatR (n + 6) s) fun y6 =>
  Option.bind (bif ((y3.1.1 == y4.1.1) && ((y3.1.2.1 == y4.1.2.1) && ((y3.1.2.2.1 == y4.1.2.2.1) && ((y3.1.2.2.2 == y4.1.2.2.2) && Bool.true)))) then
      bif (y3.2.1 == y4.2.1) then
        bif ((y5.1.1 == y6.1.1) && ((y5.1.2.1 == y6.1.2.1) && ((y5.1.2.2.1 == y6.1.2.2.1) && ((y5.1.2.2.2 == y6.1.2.2.2) && Bool.true)))) then
          some (y5.2.1 == y6.2.1)
        else
        some Bool.false
      else
      some Bool.false
    else
    some Bool.false) fun b8 =>
  some (b8, ())
noncomputable def decimalReads_it : FnIt := ⟨5, [(false, .str)], [(false, .bool)], 9, fun n x => decimalReads n x.1⟩
theorem decimalReads_ok (n : Nat) : FnOK Go.Proofs.Tryd.prog hint shT decimalReads_it n :=
  FnOK.of (hk := fun β => (Known.mk [floatR_it, float_it, intR_it, int_it, alive_it] []).hk β) (sh := shT) (fun m _ => KnownOK.hook (((((KnownOK.nil.fn alive_ok).fn int_ok).fn intR_ok).fn float_ok).fn floatR_ok) m) (fun x => by kernel_rfl)


end Go.Proofs.YtpobfjjmnemioaaDoor

/- Law 5: which texts are numbers. -/
namespace Go.Proofs.YtpobfjjmnemioaaDoor
open Go Go.Iv Go.Gv
set_option linter.unusedSimpArgs false
set_option linter.unusedVariables false
set_option maxRecDepth 20000

theorem nan_sgn (s : List UInt8) (h : isNan s = true) : isInf (sgn s).1 = false := by
  unfold isNan at h
  rw [Bool.or_eq_true, Bool.or_eq_true, beq_iff_eq, beq_iff_eq, beq_iff_eq] at h
  rcases h with rfl | rfl | rfl <;> decide
theorem floatR_spec (n : Nat) (s : List UInt8) (hs : s.length ≤ 6000) (hn : 20000 ≤ n) : floatR n s = some (fl s) := by
  have hsn := nan_sgn s
  have hsl := sgn_len s
  unfold floatR fl
  rw [signedR_spec]
  rw [Option.bind_some]
  generalize (sgn s).1 = t at *
  generalize (sgn s).2 = b at *
  generalize hX : (Option.bind (runR n t (0 : Int)) _) = X
  have e : X = some (num t b) := by
    rw [← hX]
    clear hX hsn
    have hr := run_len t
    have h1 := runR_spec n t 0 (by omega) (by omega) (by omega)
    rw [List.drop_zero, Nat.zero_add] at h1
    rw [show runR n t (0 : Int) = _ from h1, Option.bind_some]
    unfold num
    generalize hw : run t = w at *
    rw [at_dot, Option.bind_some]
    cases hp : pre [46] (t.drop w.length) with
    | true =>
      have hpl := pre_len _ _ hp
      simp only [List.length_drop, List.length_singleton] at hpl
      have hr2 := run_len (t.drop (w.length + 1))
      rw [List.length_drop] at hr2
      have wi : IntKind.wrap .i64 ((w.length : Int) + 1) = ((w.length + 1 : Nat) : Int) := by rw [wrap_id] <;> omega
      rw [cond_true, cond_true, wi, runR_spec n t (w.length + 1) (by omega) (by omega) (by omega), Option.bind_some]
      generalize hq : run (t.drop (w.length + 1)) = p at *
      have wl : IntKind.wrap .i64 (len w + len p) = len w + len p := by unfold len; rw [wrap_id] <;> omega
      rw [beq_nil, beq_nil, wl]
      have hB : (bif w.isEmpty then bif p.isEmpty then some Bool.true else some (ilt 5000 (len w + len p)) else some (ilt 5000 (len w + len p))) = some ((w.isEmpty && p.isEmpty) || ilt 5000 (len w + len p)) := by
        cases w.isEmpty <;> cases p.isEmpty <;> cases ilt 5000 (len w + len p) <;> rfl
      rw [hB, Option.bind_some]
      cases hg : ((w.isEmpty && p.isEmpty) || ilt 5000 (len w + len p)) with
      | true =>
        unfold tail
        rw [hg]
        rw [Bool.or_true]; rfl
      | false =>
        rw [cond_false]
        exact tail_ref n t w p b (w.length + 1 + p.length) (by omega) (by omega) (by omega) (by omega) hn hg
    | false =>
      rw [cond_false, cond_false]
      have wl : IntKind.wrap .i64 (len w + 0) = len w + 0 := by unfold len; rw [wrap_id] <;> omega
      rw [beq_nil, wl]
      have hB : (bif w.isEmpty then some Bool.true else some (ilt 5000 (len w + 0))) = some ((w.isEmpty && ([] : List UInt8).isEmpty) || ilt 5000 (len w + len ([] : List UInt8))) := by
        show _ = some ((w.isEmpty && true) || ilt 5000 (len w + 0))
        cases w.isEmpty <;> cases ilt 5000 (len w + 0) <;> rfl
      rw [hB, Option.bind_some]
      cases hg : ((w.isEmpty && ([] : List UInt8).isEmpty) || ilt 5000 (len w + len ([] : List UInt8))) with
      | true =>
        unfold tail
        rw [hg]
        rw [Bool.or_true]; rfl
      | false =>
        rw [cond_false]
        have := tail_ref n t w [] b w.length (by omega) (by omega) (by omega) (by simp) hn hg
        have w0 : IntKind.wrap .i64 (0 - len ([] : List UInt8)) = 0 := by decide
        rw [w0] at this
        exact this
  rw [e]
  unfold isNan at hsn
  unfold isNan isInf nanv infv
  unfold isInf at hsn
  cases h1 : t == [46, 105, 110, 102] <;> cases h2 : t == [46, 73, 110, 102] <;> cases h3 : t == [46, 73, 78, 70] <;> rw [h1, h2, h3] at hsn <;>
  cases h4 : s == [46, 110, 97, 110] <;> cases h5 : s == [46, 78, 97, 78] <;> cases h6 : s == [46, 78, 65, 78] <;> rw [h4, h5, h6] at hsn <;> first | rfl | exact absurd (hsn rfl) (by decide)
end Go.Proofs.YtpobfjjmnemioaaDoor
#print axioms Go.Proofs.YtpobfjjmnemioaaDoor.floatR_spec

/- Plain functions for the program's. -/
namespace Go.Proofs.YtpobfjjmnemioaaDoor
open Go Go.Iv Go.Gv
set_option maxRecDepth 100000
set_option linter.unusedVariables false
noncomputable def digitsR_or (Fr : Nat → Int → Option ((List UInt8) × Unit)) : FnIt := ⟨18, [(false, (.int .i64))], [(false, .str)], 0, fun n x => Fr n x.1⟩

noncomputable def digitsR_b (Fr : Nat → Int → Option ((List UInt8) × Unit)) (n : Nat) (m : Int) : Option ((List UInt8) × Unit) :=
  bif ((Go.Iv.ile (0 : Int) (Go.IntKind.wrap Go.IntKind.i64 ((Int.tmod m (10 : Int)) + (1 : Int)))) && (Go.Iv.ile (Go.IntKind.wrap Go.IntKind.i64 ((Int.tmod m (10 : Int)) + (1 : Int))) (10 : Int))) then
  bif ((Go.Iv.ile (0 : Int) (Int.tmod m (10 : Int))) && (Go.Iv.ile (Int.tmod m (10 : Int)) (((Int.toNat (Go.IntKind.wrap Go.IntKind.i64 ((Int.tmod m (10 : Int)) + (1 : Int)))) : Nat) : Int))) then
  bif (Go.Iv.ilt (9 : Int) m) then
    Option.bind (Fr n (Go.IntKind.wrap Go.IntKind.i64 (Int.tdiv m (10 : Int)))) fun y0 =>
    bif (room ((List.length y0.1) + (List.length (List.take ((Int.toNat (Go.IntKind.wrap Go.IntKind.i64 ((Int.tmod m (10 : Int)) + (1 : Int)))) - (Int.toNat (Int.tmod m (10 : Int)))) (List.drop (Int.toNat (Int.tmod m (10 : Int))) ([(48 : UInt8), (49 : UInt8), (50 : UInt8), (51 : UInt8), (52 : UInt8), (53 : UInt8), (54 : UInt8), (55 : UInt8), (56 : UInt8), (57 : UInt8)] : List UInt8)))))) then
    some ((y0.1 ++ (List.take ((Int.toNat (Go.IntKind.wrap Go.IntKind.i64 ((Int.tmod m (10 : Int)) + (1 : Int)))) - (Int.toNat (Int.tmod m (10 : Int)))) (List.drop (Int.toNat (Int.tmod m (10 : Int))) ([(48 : UInt8), (49 : UInt8), (50 : UInt8), (51 : UInt8), (52 : UInt8), (53 : UInt8), (54 : UInt8), (55 : UInt8), (56 : UInt8), (57 : UInt8)] : List UInt8)))), ())
    else none
  else
  some ((List.take ((Int.toNat (Go.IntKind.wrap Go.IntKind.i64 ((Int.tmod m (10 : Int)) + (1 : Int)))) - (Int.toNat (Int.tmod m (10 : Int)))) (List.drop (Int.toNat (Int.tmod m (10 : Int))) ([(48 : UInt8), (49 : UInt8), (50 : UInt8), (51 : UInt8), (52 : UInt8), (53 : UInt8), (54 : UInt8), (55 : UInt8), (56 : UInt8), (57 : UInt8)] : List UInt8))), ())
  else none
  else none
noncomputable def digitsR_bit (Fr : Nat → Int → Option ((List UInt8) × Unit)) : FnIt := ⟨18, [(false, (.int .i64))], [(false, .str)], 1, fun n x => digitsR_b Fr n x.1⟩
theorem digitsR_bok (Fr : Nat → Int → Option ((List UInt8) × Unit)) (hFr : ∀ m, FnOK Go.Proofs.Tryd.prog hint shT (digitsR_or Fr) m) (n : Nat) : FnOK Go.Proofs.Tryd.prog hint shT (digitsR_bit Fr) n :=
  FnOK.of (hk := fun β => (Known.mk [(digitsR_or Fr)] []).hk β) (sh := shT) (fun m _ => KnownOK.hook (KnownOK.nil.fn hFr) m) (fun x => by kernel_rfl)
noncomputable def digitsR_d : Nat → Nat → Int → Option ((List UInt8) × Unit)
  | 0, _, _ => none
  | d + 1, n, m => bif Nat.ble 1 n then digitsR_b (digitsR_d d) (n - 1) m else none
noncomputable def digitsR (n : Nat) (m : Int) : Option ((List UInt8) × Unit) := digitsR_d n n m
noncomputable def digitsR_it : FnIt := ⟨18, [(false, (.int .i64))], [(false, .str)], 0, fun n x => digitsR n x.1⟩
theorem digitsR_ok (n : Nat) : FnOK Go.Proofs.Tryd.prog hint shT digitsR_it n :=
  FnOK.diag (f := 18) (pa := [(false, (.int .i64))]) (re := [(false, .str)]) (fun d n x => digitsR_d d n x.1) (FnOK.byDepth (f := 18) (pa := [(false, (.int .i64))]) (re := [(false, .str)]) (D := 1) (fun G n x => digitsR_b (fun n m => G n (m, ())) n x.1) _ (fun _ _ => rfl) (fun _ _ _ => rfl) (fun G h n => digitsR_bok (fun n m => G n (m, ())) h n)) n

noncomputable def itoaR (n : Nat) (m : Int) : Option ((List UInt8) × Unit) :=
  bif (Go.Iv.ilt m (0 : Int)) then
    Option.bind (digitsR n (Go.IntKind.wrap Go.IntKind.i64 ((0 : Int) - m))) fun y0 =>
    bif (room ((List.length ([(45 : UInt8)] : List UInt8)) + (List.length y0.1))) then
    some ((([(45 : UInt8)] : List UInt8) ++ y0.1), ())
    else none
  else
  Option.bind (digitsR n m) fun y1 =>
  some (y1.1, ())
noncomputable def itoaR_it : FnIt := ⟨10, [(false, (.int .i64))], [(false, .str)], 1, fun n x => itoaR n x.1⟩
theorem itoaR_ok (n : Nat) : FnOK Go.Proofs.Tryd.prog hint shT itoaR_it n :=
  FnOK.of (hk := fun β => (Known.mk [digitsR_it] []).hk β) (sh := shT) (fun m _ => KnownOK.hook (KnownOK.nil.fn digitsR_ok) m) (fun x => by kernel_rfl)


end Go.Proofs.YtpobfjjmnemioaaDoor

/- Plain functions for the program's. -/
namespace Go.Proofs.YtpobfjjmnemioaaDoor
open Go Go.Iv Go.Gv
set_option maxRecDepth 100000
set_option linter.unusedVariables false
noncomputable def L6_12_Xexit0 : Tm := ⟨[(0, .one (.int .i64)), (8, .one (.int .i64)), (9, .one (.str))], [], 64, 64, 1000⟩
noncomputable def L6_12_T : Tm := ⟨[(0, .one (.int .i64)), (1, .one (.int .i64)), (8, .one (.int .i64)), (9, .one (.str)), (10, .one (.int .i64))], [], 64, 64, 1000⟩
noncomputable def L6_12 : Nat → Int → Int → Int → (List UInt8) → Int → Option ((Int × (Int × ((List UInt8) × Unit))) × Unit)
  | 0, _, _, _, _, _ => none
  | n + 1, t0, t1, t8, t9, t10 =>
    bif (Go.Iv.ilt t10 t1) then
      bif (room ((List.length t9) + (List.length ([(48 : UInt8)] : List UInt8)))) then
      L6_12 n t0 t1 t8 (t9 ++ ([(48 : UInt8)] : List UInt8)) (Go.IntKind.wrap Go.IntKind.i64 (t10 + (1 : Int)))
      else none
    else
    some ((t0, (t8, (t9, ()))), ())
noncomputable def L6_12_it : LoopIt := ⟨6, 12, none, L6_12_T, [(.exit 0, L6_12_Xexit0)], 0, fun n x => L6_12 n x.1.1 x.1.2.1 x.1.2.2.1 x.1.2.2.2.1 x.1.2.2.2.2.1⟩
theorem L6_12_Xexit0_ok : L6_12_Xexit0.ok Go.Proofs.Tryd.prog hint := by
  intro p hp
  cases hp
theorem L6_12_T_ok : L6_12_T.ok Go.Proofs.Tryd.prog hint := by
  intro p hp
  cases hp
theorem L6_12_ok : ∀ n, LoopOK Go.Proofs.Tryd.prog hint shT L6_12_it n :=
  LoopOK.of (hk := fun β => (Known.mk [] []).hk β) (sh := shT) (OneLoop.of (by kernel_rfl)) L6_12_T_ok ⟨⟨L6_12_Xexit0_ok, Nat.le_refl _, Nat.le_refl _⟩, trivial⟩ (fun m => KnownOK.hook KnownOK.nil m)
    (fun _ => by kernel_rfl) (fun m x => by kernel_rfl)

noncomputable def L6_18_Xexit2 : Tm := ⟨[(0, .one (.int .i64)), (8, .one (.int .i64)), (9, .one (.str)), (11, .one (.str)), (12, .one (.fix (Go.Gv.TV.ptr 64 0))), (13, .one (.bool)), (14, .one (.int .i64))], [(64, .cells 24 [.bool, .str, .int .i64, .int .i64] true)], 65, 65, 2003⟩
noncomputable def L6_18_T : Tm := ⟨[(0, .one (.int .i64)), (8, .one (.int .i64)), (9, .one (.str)), (11, .one (.str)), (12, .one (.fix (Go.Gv.TV.ptr 64 0))), (13, .one (.bool)), (14, .one (.int .i64))], [(64, .cells 24 [.bool, .str, .int .i64, .int .i64] true)], 65, 65, 2003⟩
noncomputable def L6_18 : Nat → Int → Int → (List UInt8) → (List UInt8) → Bool → Int → Bool → (List UInt8) → Int → Int → Option ((Int × (Int × ((List UInt8) × ((List UInt8) × (Unit × (Bool × (Int × Unit))))))) × ((Bool × ((List UInt8) × (Int × (Int × Unit)))) × Unit))
  | 0, _, _, _, _, _, _, _, _, _, _ => none
  | n + 1, t0, t8, t9, t11, t13, t14, c64_0, c64_1, c64_2, c64_3 =>
    Option.bind (bif (Go.Iv.ilt (0 : Int) t8) then
        some ((Int.tmod t8 (10 : Int)) == (0 : Int))
      else
      some Bool.false) fun b11 =>
    bif b11 then
      L6_18 n t0 (Go.IntKind.wrap Go.IntKind.i64 (Int.tdiv t8 (10 : Int))) t9 t11 t13 (Go.IntKind.wrap Go.IntKind.i64 (t14 + (1 : Int))) c64_0 c64_1 c64_2 c64_3
    else
    some ((t0, (t8, (t9, (t11, ((), (t13, (t14, ()))))))), ((c64_0, (c64_1, (c64_2, (c64_3, ())))), ()))
noncomputable def L6_18_it : LoopIt := ⟨6, 18, none, L6_18_T, [(.exit 2, L6_18_Xexit2)], 0, fun n x => L6_18 n x.1.1 x.1.2.1 x.1.2.2.1 x.1.2.2.2.1 x.1.2.2.2.2.2.1 x.1.2.2.2.2.2.2.1 x.2.1.1 x.2.1.2.1 x.2.1.2.2.1 x.2.1.2.2.2.1⟩
theorem L6_18_Xexit2_ok : L6_18_Xexit2.ok Go.Proofs.Tryd.prog hint := by
  intro p hp
  simp only [L6_18_Xexit2, List.mem_cons, List.not_mem_nil, or_false] at hp
  rcases hp with rfl
  · trivial
theorem L6_18_T_ok : L6_18_T.ok Go.Proofs.Tryd.prog hint := by
  intro p hp
  simp only [L6_18_T, List.mem_cons, List.not_mem_nil, or_false] at hp
  rcases hp with rfl
  · trivial
theorem L6_18_ok : ∀ n, LoopOK Go.Proofs.Tryd.prog hint shT L6_18_it n :=
  LoopOK.of (hk := fun β => (Known.mk [] []).hk β) (sh := shT) (OneLoop.of (by kernel_rfl)) L6_18_T_ok ⟨⟨L6_18_Xexit2_ok, Nat.le_refl _, Nat.le_refl _⟩, trivial⟩ (fun m => KnownOK.hook KnownOK.nil m)
    (fun _ => by kernel_rfl) (fun m x => by kernel_rfl)

noncomputable def decimalInts (n : Nat) (v : Int) (zeros : Int) (plus : Bool) : Option (Bool × Unit) :=
  Option.bind (alive n ) fun y0 =>
  Option.bind (bif (!y0.1) then
      some Bool.true
    else
    bif (Go.Iv.ilt v (-(1152921504606846976 : Int))) then
      some Bool.true
    else
    bif (Go.Iv.ilt (1152921504606846976 : Int) v) then
      some Bool.true
    else
    bif (Go.Iv.ilt zeros (0 : Int)) then
      some Bool.true
    else
    some (Go.Iv.ilt (50 : Int) zeros)) fun b2 =>
  bif b2 then
    some (y0.1, ())
  else
  bif (Go.Iv.ilt v (0 : Int)) then
    Option.bind (L6_12 (n + 9) v zeros (Go.IntKind.wrap Go.IntKind.i64 ((0 : Int) - v)) ([(45 : UInt8)] : List UInt8) (0 : Int)) fun y3 =>
    Option.bind (digitsR (n + 8) y3.1.2.1) fun y4 =>
    bif (room ((List.length y3.1.2.2.1) + (List.length y4.1))) then
    Option.bind (int (n + 3) (y3.1.2.2.1 ++ y4.1)) fun y5 =>
    Option.bind (L6_18 (n + 9) y3.1.1 y3.1.2.1 y3.1.2.2.1 y4.1 y5.2.1 (0 : Int) y5.1.1 y5.1.2.1 y5.1.2.2.1 y5.1.2.2.2) fun y12 =>
    bif (room ((List.length y12.1.2.2.1) + (List.length y12.1.2.2.2.1))) then
    bif (room ((List.length (y12.1.2.2.1 ++ y12.1.2.2.2.1)) + (List.length ([(46 : UInt8), (48 : UInt8), (48 : UInt8), (48 : UInt8), (101 : UInt8), (48 : UInt8)] : List UInt8)))) then
    Option.bind (float (n + 1) ((y12.1.2.2.1 ++ y12.1.2.2.2.1) ++ ([(46 : UInt8), (48 : UInt8), (48 : UInt8), (48 : UInt8), (101 : UInt8), (48 : UInt8)] : List UInt8))) fun y13 =>
    Option.bind (digitsR (n + 8) y12.1.2.1) fun y14 =>
    Option.bind (bif y12.1.2.2.2.2.2.1 then
        bif ((y12.2.1.1 == (Go.Iv.ilt y12.1.1 (0 : Int))) && ((y12.2.1.2.1 == y14.1) && ((y12.2.1.2.2.1 == y12.1.2.2.2.2.2.2.1) && ((y12.2.1.2.2.2.1 == (0 : Int)) && Bool.true)))) then
          bif y13.2.1 then
            some ((y13.1.1 == (Go.Iv.ilt y12.1.1 (0 : Int))) && ((y13.1.2.1 == y14.1) && ((y13.1.2.2.1 == y12.1.2.2.2.2.2.2.1) && ((y13.1.2.2.2 == (0 : Int)) && Bool.true))))
          else
          some Bool.false
        else
        some Bool.false
      else
      some Bool.false) fun b16 =>
    some (b16, ())
    else none
    else none
    else none
  else
  bif plus then
    Option.bind (L6_12 (n + 9) v zeros v ([(43 : UInt8)] : List UInt8) (0 : Int)) fun y17 =>
    Option.bind (digitsR (n + 8) y17.1.2.1) fun y18 =>
    bif (room ((List.length y17.1.2.2.1) + (List.length y18.1))) then
    Option.bind (int (n + 3) (y17.1.2.2.1 ++ y18.1)) fun y19 =>
    Option.bind (L6_18 (n + 9) y17.1.1 y17.1.2.1 y17.1.2.2.1 y18.1 y19.2.1 (0 : Int) y19.1.1 y19.1.2.1 y19.1.2.2.1 y19.1.2.2.2) fun y20 =>
    bif (room ((List.length y20.1.2.2.1) + (List.length y20.1.2.2.2.1))) then
    bif (room ((List.length (y20.1.2.2.1 ++ y20.1.2.2.2.1)) + (List.length ([(46 : UInt8), (48 : UInt8), (48 : UInt8), (48 : UInt8), (101 : UInt8), (48 : UInt8)] : List UInt8)))) then
    Option.bind (float (n + 1) ((y20.1.2.2.1 ++ y20.1.2.2.2.1) ++ ([(46 : UInt8), (48 : UInt8), (48 : UInt8), (48 : UInt8), (101 : UInt8), (48 : UInt8)] : List UInt8))) fun y21 =>
    Option.bind (digitsR (n + 8) y20.1.2.1) fun y22 =>
    Option.bind (bif y20.1.2.2.2.2.2.1 then
        bif ((y20.2.1.1 == (Go.Iv.ilt y20.1.1 (0 : Int))) && ((y20.2.1.2.1 == y22.1) && ((y20.2.1.2.2.1 == y20.1.2.2.2.2.2.2.1) && ((y20.2.1.2.2.2.1 == (0 : Int)) && Bool.true)))) then
          bif y21.2.1 then
            some ((y21.1.1 == (Go.Iv.ilt y20.1.1 (0 : Int))) && ((y21.1.2.1 == y22.1) && ((y21.1.2.2.1 == y20.1.2.2.2.2.2.2.1) && ((y21.1.2.2.2 == (0 : Int)) && Bool.true))))
          else
          some Bool.false
        else
        some Bool.false
      else
      some Bool.false) fun b24 =>
    some (b24, ())
    else none
    else none
    else none
  else
  Option.bind (L6_12 (n + 9) v zeros v ([] : List UInt8) (0 : Int)) fun y25 =>
  Option.bind (digitsR (n + 8) y25.1.2.1) fun y26 =>
  bif (room ((List.length y25.1.2.2.1) + (List.length y26.1))) then
  Option.bind (int (n + 3) (y25.1.2.2.1 ++ y26.1)) fun y27 =>
  Option.bind (L6_18 (n + 9) y25.1.1 y25.1.2.1 y25.1.2.2.1 y26.1 y27.2.1 (0 : Int) y27.1.1 y27.1.2.1 y27.1.2.2.1 y27.1.2.2.2) fun y28 =>
  bif (room ((List.length y28.1.2.2.1) + (List.length y28.1.2.2.2.1))) then
  bif (room ((List.length (y28.1.2.2.1 ++ y28.1.2.2.2.1)) + (List.length ([(46 : UInt8), (48 : UInt8), (48 : UInt8), (48 : UInt8), (101 : UInt8), (48 : UInt8)] : List UInt8)))) then
  Option.bind (float (n + 1) ((y28.1.2.2.1 ++ y28.1.2.2.2.1) ++ ([(46 : UInt8), (48 : UInt8), (48 : UInt8), (48 : UInt8), (101 : UInt8), (48 : UInt8)] : List UInt8))) fun y29 =>
  Option.bind (digitsR (n + 8) y28.1.2.1) fun y30 =>
  Option.bind (bif y28.1.2.2.2.2.2.1 then
      bif ((y28.2.1.1 == (Go.Iv.ilt y28.1.1 (0 : Int))) && ((y28.2.1.2.1 == y30.1) && ((y28.2.1.2.2.1 == y28.1.2.2.2.2.2.2.1) && ((y28.2.1.2.2.2.1 == (0 : Int)) && Bool.true)))) then
        bif y29.2.1 then
          some ((y29.1.1 == (Go.Iv.ilt y28.1.1 (0 : Int))) && ((y29.1.2.1 == y30.1) && ((y29.1.2.2.1 == y28.1.2.2.2.2.2.2.1) && ((y29.1.2.2.2 == (0 : Int)) && Bool.true))))
        else
        some Bool.false
      else
      some Bool.false
    else
    some Bool.false) fun b32 =>
  some (b32, ())
  else none
  else none
  else none
noncomputable def decimalInts_it : FnIt := ⟨6, [(false, (.int .i64)), (false, (.int .i64)), (false, .bool)], [(false, .bool)], 9, fun n x => decimalInts n x.1 x.2.1 x.2.2.1⟩
theorem decimalInts_ok (n : Nat) : FnOK Go.Proofs.Tryd.prog hint shT decimalInts_it n :=
  FnOK.of (hk := fun β => (Known.mk [float_it, int_it, digitsR_it, alive_it] [L6_18_it, L6_12_it]).hk β) (sh := shT) (fun m _ => KnownOK.hook ((((((KnownOK.nil.fn alive_ok).loop L6_12_ok L6_12_T_ok).fn digitsR_ok).fn int_ok).loop L6_18_ok L6_18_T_ok).fn float_ok) m) (fun x => by kernel_rfl)


end Go.Proofs.YtpobfjjmnemioaaDoor

/- Law 5: whole numbers' digits. -/
namespace Go.Proofs.YtpobfjjmnemioaaDoor
open Go Go.Iv Go.Gv
set_option linter.unusedSimpArgs false
set_option linter.unusedVariables false
set_option maxRecDepth 20000

def d1 (k : Nat) : UInt8 := UInt8.ofNat (48 + k)
def dg (m : Nat) : List UInt8 := if h : m < 10 then [d1 m] else dg (m / 10) ++ [d1 (m % 10)]
termination_by m
theorem dg_s (m : Nat) (h : m < 10) : dg m = [d1 m] := by rw [dg, dif_pos h]
theorem dg_l (m : Nat) (h : 10 ≤ m) : dg m = dg (m / 10) ++ [d1 (m % 10)] := by rw [dg, dif_neg (by omega)]
theorem d1_dig (k : Nat) (h : k < 10) : dig (d1 k) = true := by
  have : k = 0 ∨ k = 1 ∨ k = 2 ∨ k = 3 ∨ k = 4 ∨ k = 5 ∨ k = 6 ∨ k = 7 ∨ k = 8 ∨ k = 9 := by omega
  rcases this with rfl | rfl | rfl | rfl | rfl | rfl | rfl | rfl | rfl | rfl <;> decide
theorem d1_48 (k : Nat) (h : k < 10) : (d1 k == 48) = Nat.beq k 0 := by
  have : k = 0 ∨ k = 1 ∨ k = 2 ∨ k = 3 ∨ k = 4 ∨ k = 5 ∨ k = 6 ∨ k = 7 ∨ k = 8 ∨ k = 9 := by omega
  rcases this with rfl | rfl | rfl | rfl | rfl | rfl | rfl | rfl | rfl | rfl <;> decide
theorem allg_app : ∀ (a b : List UInt8), allg (a ++ b) = (allg a && allg b)
  | [], b => rfl
  | c :: r, b => by
    simp only [List.cons_append, allg, allg_app r b, Bool.and_assoc]
theorem dg_ok : ∀ (m : Nat), allg (dg m) = true ∧ dg m ≠ [] ∧ (0 < m → tl (dg m) = dg m) := by
  intro m
  induction m using Nat.strongRecOn with
  | _ m ih =>
    by_cases h : m < 10
    · rw [dg_s m h]
      refine ⟨by simp only [allg, d1_dig m h, Bool.and_true], by simp, fun h0 => ?_⟩
      refine tl_id _ _ ?_
      rw [d1_48 m h]
      cases m with
      | zero => omega
      | succ => rfl
    · rw [dg_l m (by omega)]
      obtain ⟨i1, i2, i3⟩ := ih (m / 10) (by omega)
      refine ⟨by rw [allg_app, i1]; simp only [allg, d1_dig (m % 10) (by omega), Bool.and_true], by simp, fun _ => ?_⟩
      have i3 := i3 (by omega)
      cases hd : dg (m / 10) with
      | nil => exact absurd hd i2
      | cons x r => rw [hd] at i3; exact tl_id x _ (tl_head _ x r i3)
theorem digit_take (k : Nat) (h : k < 10) : List.take (k + 1 - k) (List.drop k ([(48 : UInt8), (49 : UInt8), (50 : UInt8), (51 : UInt8), (52 : UInt8), (53 : UInt8), (54 : UInt8), (55 : UInt8), (56 : UInt8), (57 : UInt8)] : List UInt8)) = [d1 k] := by
  have : k = 0 ∨ k = 1 ∨ k = 2 ∨ k = 3 ∨ k = 4 ∨ k = 5 ∨ k = 6 ∨ k = 7 ∨ k = 8 ∨ k = 9 := by omega
  rcases this with rfl | rfl | rfl | rfl | rfl | rfl | rfl | rfl | rfl | rfl <;> rfl
theorem dg_len : ∀ (d m : Nat), m < 10 ^ (d + 1) → (dg m).length ≤ d + 1 := by
  intro d
  induction d with
  | zero => intro m h; rw [dg_s m (by simpa using h)]; simp
  | succ d ih =>
    intro m h
    by_cases h10 : m < 10
    · rw [dg_s m h10]; simp
    · rw [dg_l m (by omega), List.length_append]
      have := ih (m / 10) (by rw [Nat.pow_succ] at h; omega)
      simp; omega
theorem digits_d : ∀ (d D m n : Nat), m < 10 ^ (d + 1) → d ≤ 18 → d + 1 ≤ D → d + 1 ≤ n → digitsR_d D n (m : Int) = some (dg m, ()) := by
  intro d
  induction d with
  | zero =>
    intro D m n h hd hD hn
    obtain ⟨D, rfl⟩ : ∃ k, D = k + 1 := ⟨D - 1, by omega⟩
    have h10 : m < 10 := by simpa using h
    have hle : Nat.ble 1 n = true := Nat.ble_eq_true_of_le (by omega)
    have t1 : Int.tmod (m : Int) 10 = ((m : Nat) : Int) := by rw [Int.tmod_eq_emod_of_nonneg (by omega)]; omega
    have w : IntKind.wrap .i64 ((m : Int) + 1) = ((m + 1 : Nat) : Int) := by rw [wrap_id] <;> omega
    simp only [digitsR_d, hle, cond_true, digitsR_b, t1, w, ile_t (show (0 : Int) ≤ ((m + 1 : Nat) : Int) by omega), ile_t (show ((m + 1 : Nat) : Int) ≤ 10 by omega), ile_t (show (0 : Int) ≤ (m : Int) by omega), Int.toNat_natCast, ile_t (show (m : Int) ≤ ((m + 1 : Nat) : Int) by omega), Bool.and_self,
      ilt_f (show (m : Int) ≤ 9 by omega), cond_false, digit_take m h10]
    rw [dg_s m h10]
  | succ d ih =>
    intro D m n h hd hD hn
    obtain ⟨D, rfl⟩ : ∃ k, D = k + 1 := ⟨D - 1, by omega⟩
    have hle : Nat.ble 1 n = true := Nat.ble_eq_true_of_le (by omega)
    have t1 : Int.tmod (m : Int) 10 = ((m % 10 : Nat) : Int) := by rw [Int.tmod_eq_emod_of_nonneg (by omega)]; omega
    have w : IntKind.wrap .i64 (((m % 10 : Nat) : Int) + 1) = ((m % 10 + 1 : Nat) : Int) := by rw [wrap_id] <;> omega
    have hp : (10 : Nat) ^ (d + 1 + 1) ≤ 10 ^ 19 + 10 ^ 19 := Nat.le_trans (Nat.pow_le_pow_right (by decide) (show d + 1 + 1 ≤ 19 + 1 - 1 by omega)) (by decide)
    have hmm : m / 10 < 9000000000000000000 := by
      have : m < 10 ^ 19 + 10 ^ 19 := Nat.lt_of_lt_of_le h hp
      have e : (10 : Nat) ^ 19 + 10 ^ 19 = 20000000000000000000 := by decide
      rw [e] at this; omega
    have w2 : IntKind.wrap .i64 (Int.tdiv (m : Int) 10) = ((m / 10 : Nat) : Int) := by rw [Int.tdiv_eq_ediv_of_nonneg (by omega), wrap_id] <;> omega
    rw [digitsR_d, hle, cond_true]
    simp only [digitsR_b, t1, w, w2, ile_t (show (0 : Int) ≤ ((m % 10 + 1 : Nat) : Int) by omega), ile_t (show ((m % 10 + 1 : Nat) : Int) ≤ 10 by omega), ile_t (show (0 : Int) ≤ ((m % 10 : Nat) : Int) by omega), Int.toNat_natCast, ile_t (show ((m % 10 : Nat) : Int) ≤ ((m % 10 + 1 : Nat) : Int) by omega), Bool.and_self, cond_true,
      digit_take (m % 10) (by omega)]
    by_cases h10 : m < 10
    · rw [ilt_f (show (m : Int) ≤ 9 by omega), cond_false, dg_s m h10, Nat.mod_eq_of_lt h10]
    · have hl : m / 10 < 10 ^ (d + 1) := by rw [Nat.pow_succ] at h; omega
      have hl2 := dg_len d _ hl
      rw [ilt_t (show 9 < (m : Int) by omega), cond_true, ih D (m / 10) (n - 1) hl (by omega) (by omega) (by omega), Option.bind_some, roomle (show (dg (m / 10)).length + ([d1 (m % 10)] : List UInt8).length ≤ 1000000 by simp; omega), dg_l m (by omega)]
      rfl
theorem digitsR_spec (n m : Nat) (h : m < 10000000000000000000) (hn : 30 ≤ n) : digitsR n (m : Int) = some (dg m, ()) := by
  exact digits_d 18 n m n h (by omega) (by omega) (by omega)
end Go.Proofs.YtpobfjjmnemioaaDoor

/- Law 5: the statement's function. -/
namespace Go.Proofs.YtpobfjjmnemioaaDoor
open Go Go.Iv Go.Gv
set_option linter.unusedSimpArgs false
set_option linter.unusedVariables false
set_option maxRecDepth 20000

theorem alive_spec (n : Nat) (hn : 20000 ≤ n) : alive n = some (true, ()) := by
  unfold alive
  rw [float_spec n _ (by decide) hn]
  rfl
theorem same (x : Num × (Bool × Unit)) : (bif ((x.1.1 == x.1.1) && ((x.1.2.1 == x.1.2.1) && ((x.1.2.2.1 == x.1.2.2.1) && ((x.1.2.2.2 == x.1.2.2.2) && Bool.true)))) then true else false) = true := by
  simp
theorem reads_all (n : Nat) (s : List UInt8) (hn : 20000 ≤ n) : decimalReads n s = some (true, ()) := by
  unfold decimalReads
  rw [alive_spec n hn, Option.bind_some]
  simp only [Bool.not_true, cond_false]
  generalize hX : (bif ilt 300 (len s) then bif ilt (len s) 4990 then some true else some (ilt 5015 (len s)) else some (ilt 5015 (len s))) = X
  have hc : X = some true ∨ (X = some false ∧ s.length ≤ 5015) := by
    rw [← hX]
    by_cases h : (len s) ≤ 5015
    · unfold len at h
      cases ilt 300 (len s) <;> cases ilt (len s) 4990 <;> rw [ilt_f (show len s ≤ 5015 from h)] <;> simp <;> omega
    · left
      rw [ilt_t (show 5015 < len s by omega)]
      cases ilt 300 (len s) <;> cases ilt (len s) 4990 <;> rfl
  rcases hc with h | ⟨h, hl⟩
  · rw [h]; rfl
  · rw [h, Option.bind_some, cond_false, int_spec (n + 3) s (by omega), Option.bind_some, intR_spec (n + 5) s (by omega), Option.bind_some, float_spec (n + 1) s (by omega) (by omega), Option.bind_some, floatR_spec (n + 6) s (by omega) (by omega), Option.bind_some]
    generalize iv s = x
    generalize fl s = y
    simp only [beq_self_eq_true, Bool.and_self, cond_true, Option.bind_some]
theorem reads_spec (s : List UInt8) : decimalReads 30000 s = some (true, ()) := reads_all 30000 s (by decide)
end Go.Proofs.YtpobfjjmnemioaaDoor

/- Law 5: whole numbers with signs and noughts. -/
namespace Go.Proofs.YtpobfjjmnemioaaDoor
open Go Go.Iv Go.Gv
set_option linter.unusedSimpArgs false
set_option linter.unusedVariables false
set_option maxRecDepth 20000

/-! ### Noughts at the end -/
def cz (m : Nat) : Nat × Nat := if h : 0 < m ∧ m % 10 = 0 then ((cz (m / 10)).1, (cz (m / 10)).2 + 1) else (m, 0)
termination_by m
theorem cz_y (m : Nat) (h : 0 < m ∧ m % 10 = 0) : cz m = ((cz (m / 10)).1, (cz (m / 10)).2 + 1) := by rw [cz, dif_pos h]
theorem cz_n (m : Nat) (h : ¬ (0 < m ∧ m % 10 = 0)) : cz m = (m, 0) := by rw [cz, dif_neg h]
theorem cz_le : ∀ (d m : Nat), m < 10 ^ d → (cz m).2 ≤ d ∧ (cz m).1 ≤ m := by
  intro d
  induction d with
  | zero => intro m h; rw [cz_n m (by simp at h; omega)]; simp
  | succ d ih =>
    intro m h
    by_cases hc : 0 < m ∧ m % 10 = 0
    · rw [cz_y m hc]
      have := ih (m / 10) (by rw [Nat.pow_succ] at h; omega)
      simp; omega
    · rw [cz_n m hc]; simp
theorem cz_loop (t0 : Int) (t9 t11 : List UInt8) (t13 : Bool) (c0 : Bool) (c1 : List UInt8) (c2 c3 : Int) : ∀ (d m n : Nat) (e : Int), m < 10 ^ d → m < 9000000000000000000 → d + 1 ≤ n → 0 ≤ e ∧ e + d ≤ 1000 →
    L6_18 n t0 (m : Int) t9 t11 t13 e c0 c1 c2 c3 = some ((t0, (((cz m).1 : Int), (t9, (t11, ((), (t13, (e + ((cz m).2 : Int), ()))))))), ((c0, (c1, (c2, (c3, ())))), ())) := by
  intro d
  induction d with
  | zero =>
    intro m n e h hm hn he
    obtain ⟨n, rfl⟩ : ∃ k, n = k + 1 := ⟨n - 1, by omega⟩
    have : m = 0 := by simp at h; omega
    subst this
    rw [cz_n 0 (by omega)]
    simp only [L6_18, ilt_f (show ((0 : Nat) : Int) ≤ 0 by omega), cond_false, Option.bind_some]
    rw [show e + ((0 : Nat) : Int) = e by omega]
  | succ d ih =>
    intro m n e h hm hn he
    obtain ⟨n, rfl⟩ : ∃ k, n = k + 1 := ⟨n - 1, by omega⟩
    have t1 : Int.tmod (m : Int) 10 = ((m % 10 : Nat) : Int) := by rw [Int.tmod_eq_emod_of_nonneg (by omega)]; omega
    have w2 : IntKind.wrap .i64 (Int.tdiv (m : Int) 10) = ((m / 10 : Nat) : Int) := by rw [Int.tdiv_eq_ediv_of_nonneg (by omega), wrap_id] <;> omega
    have w3 : IntKind.wrap .i64 (e + 1) = e + 1 := by rw [wrap_id] <;> omega
    by_cases hc : 0 < m ∧ m % 10 = 0
    · have hb : (((m % 10 : Nat) : Int) == (0 : Int)) = true := by rw [hc.2]; rfl
      simp only [L6_18, t1, w2, w3, ilt_t (show (0 : Int) < (m : Int) by omega), cond_true, hb, Option.bind_some]
      rw [ih (m / 10) n (e + 1) (by rw [Nat.pow_succ] at h; omega) (by omega) (by omega) (by omega), cz_y m hc]
      simp only []
      rw [show e + 1 + ((cz (m / 10)).2 : Int) = e + (((cz (m / 10)).2 + 1 : Nat) : Int) by omega]
    · rw [cz_n m hc]
      simp only [L6_18, t1, w2, w3]
      by_cases h0 : m = 0
      · subst h0
        rw [ilt_f (show ((0 : Nat) : Int) ≤ 0 by omega)]
        simp only [cond_false, Option.bind_some]
        rw [show e + ((0 : Nat) : Int) = e by omega]
      · have hb : (((m % 10 : Nat) : Int) == (0 : Int)) = false := by rw [beq_eq_false_iff_ne]; omega
        rw [ilt_t (show (0 : Int) < (m : Int) by omega)]
        simp only [cond_true, cond_false, Option.bind_some, hb]
        rw [show e + ((0 : Nat) : Int) = e by omega]
theorem trim_dg : ∀ (m : Nat), 0 < m → trimR (dg m) = dg (cz m).1 ∧ (dg m).length = (dg (cz m).1).length + (cz m).2 := by
  intro m
  induction m using Nat.strongRecOn with
  | _ m ih =>
    intro h0
    by_cases hc : 0 < m ∧ m % 10 = 0
    · rw [cz_y m hc, dg_l m (by omega), hc.2]
      obtain ⟨i1, i2⟩ := ih (m / 10) (by omega) (by omega)
      rw [trimR_concat, show (d1 0 == 48) = true from rfl]
      refine ⟨i1, ?_⟩
      simp only [List.length_append, List.length_singleton]
      omega
    · rw [cz_n m hc]
      refine ⟨?_, rfl⟩
      by_cases h10 : m < 10
      · rw [dg_s m h10]
        have := trimR_concat [] (d1 m)
        rw [List.nil_append, d1_48 m h10] at this
        rw [this]
        cases m with
        | zero => omega
        | succ => rfl
      · rw [dg_l m (by omega), trimR_concat, d1_48 _ (by omega)]
        cases hq : m % 10 with
        | zero => exact absurd ⟨h0, hq⟩ hc
        | succ => rfl
theorem zeros_loop (t0 t8 : Int) (z : Nat) (hz : z ≤ 50) : ∀ (d i n : Nat) (acc : List UInt8), i + d = z → acc.length + d ≤ 1000 → d + 1 ≤ n →
    L6_12 n t0 (z : Int) t8 acc (i : Int) = some ((t0, (t8, (acc ++ List.replicate d 48, ()))), ()) := by
  intro d
  induction d with
  | zero =>
    intro i n acc h ha hn
    obtain ⟨n, rfl⟩ : ∃ k, n = k + 1 := ⟨n - 1, by omega⟩
    simp only [L6_12, ilt_f (show (z : Int) ≤ (i : Int) by omega), cond_false, List.replicate_zero, List.append_nil]
  | succ d ih =>
    intro i n acc h ha hn
    obtain ⟨n, rfl⟩ : ∃ k, n = k + 1 := ⟨n - 1, by omega⟩
    have w : IntKind.wrap .i64 ((i : Int) + 1) = ((i + 1 : Nat) : Int) := by rw [wrap_id] <;> omega
    simp only [L6_12, ilt_t (show (i : Int) < (z : Int) by omega), cond_true, w, roomle (show acc.length + ([(48 : UInt8)] : List UInt8).length ≤ 1000000 by simp; omega)]
    rw [ih (i + 1) n _ (by omega) (by simp; omega) (by omega), List.append_assoc, List.replicate_succ]
    rfl

/-! ### What such a text is -/
theorem ch_hv (c : UInt8) (h : dig c = true) : ch (hv c) = c := by
  have hu := dig_ub c h
  rw [hv_ub c h]
  unfold ch
  have w : IntKind.wrap .i64 (48 + (ub c - 48)) = ub c := by rw [wrap_id] <;> omega
  rw [w, IntKind.wrap_u8]
  apply UInt8.toNat_inj.1
  rw [UInt8.toNat_ofNat']
  have := c.toNat_lt
  unfold ub at *
  omega
theorem map_ch_hv : ∀ (x : List UInt8), allg x = true → (x.map hv).map ch = x
  | [], _ => rfl
  | c :: r, h => by
    simp only [allg, Bool.and_eq_true] at h
    simp only [List.map_cons, ch_hv c h.1, map_ch_hv r h.2]
theorem allD_g : ∀ (x : List UInt8), allD 10 x = allg x
  | [] => rfl
  | c :: r => by simp only [allD, allg, okd_dig, allD_g r]
theorem tl_zeros (z : Nat) (y : List UInt8) : tl (List.replicate z 48 ++ y) = tl y := by
  induction z with
  | zero => rfl
  | succ z ih =>
    rw [List.replicate_succ, List.cons_append]
    unfold tl at ih ⊢
    rw [List.dropWhile]
    exact ih
theorem allg_zeros (z : Nat) : allg (List.replicate z 48) = true := by
  induction z with
  | zero => rfl
  | succ z ih => rw [List.replicate_succ, allg, ih]; rfl
theorem pl_digits (x : List UInt8) (h : allg x = true) (h0 : x ≠ []) (hl : x.length ≤ 5000) : pl 10 x = (bif (tl x).isEmpty then [48] else tl x, (true, ())) := by
  unfold pl
  have he : x.isEmpty = false := by
    cases x with
    | nil => exact absurd rfl h0
    | cons => rfl
  rw [he, ilt_f (show len x ≤ 5000 by unfold len; omega), allD_g, h]
  have e10 : ((10 : Int) == 10) = true := by decide
  simp only [e10, Bool.not_true, Bool.or_self, cond_false, cond_true, tx]
  rw [← List.map_reverse, List.reverse_reverse, map_ch_hv x h]
def want (b : Bool) (m : Nat) : Num := (b, (dg (cz m).1, (((cz m).2 : Int), 0)))
theorem dg_ne48 (m : Nat) (h : 0 < m) : (dg m == [48]) = false := by
  obtain ⟨h1, h2, h3⟩ := dg_ok m
  have h3 := h3 h
  cases hd : dg m with
  | nil => exact absurd hd h2
  | cons x r =>
    rw [hd] at h3
    have := tl_head _ x r h3
    show ((x == 48) && _) = false
    rw [this]; rfl
theorem dg_zero : dg 0 = [48] := dg_s 0 (by decide)
theorem cz_zero : cz 0 = (0, 0) := cz_n 0 (by omega)
theorem dg_notnil (m : Nat) : (dg m).isEmpty = false := by
  obtain ⟨h1, h2, h3⟩ := dg_ok m
  cases hd : dg m with
  | nil => exact absurd hd h2
  | cons => rfl
theorem norm_dg (b : Bool) (m : Nat) : norm b (dg m) 0 = want b m := by
  unfold norm want
  by_cases h : m = 0
  · subst h
    rw [dg_zero, cz_zero]
    show nought b = (b, (dg 0, (((0 : Nat) : Int), 0)))
    rw [dg_zero]; rfl
  · obtain ⟨h1, h2, h3⟩ := dg_ok m
    obtain ⟨t1, t2⟩ := trim_dg m (by omega)
    rw [h3 (by omega), t1, dg_notnil]
    simp only [cond_false, len]
    rw [show (0 : Int) + (((dg m).length : Nat) - ((dg (cz m).1).length : Nat)) = ((cz m).2 : Int) by omega]
theorem norm_dg3 (b : Bool) (z m : Nat) : norm b (List.replicate z 48 ++ dg m ++ [48, 48, 48]) (-3) = want b m := by
  unfold norm want
  rw [List.append_assoc, tl_zeros]
  by_cases h : m = 0
  · subst h
    rw [dg_zero, cz_zero]
    show nought b = (b, (dg 0, (((0 : Nat) : Int), 0)))
    rw [dg_zero]; rfl
  · obtain ⟨h1, h2, h3⟩ := dg_ok m
    obtain ⟨t1, t2⟩ := trim_dg m (by omega)
    have h3 := h3 (by omega)
    have e : tl (dg m ++ [48, 48, 48]) = dg m ++ [48, 48, 48] := by
      cases hd : dg m with
      | nil => exact absurd hd h2
      | cons x r => rw [hd] at h3; exact tl_id x _ (tl_head _ x r h3)
    have e2 : trimR (dg m ++ [48, 48, 48]) = dg (cz m).1 := by
      rw [show dg m ++ [48, 48, 48] = dg m ++ [48] ++ [48] ++ [48] by simp, trimR_concat, trimR_concat, trimR_concat, t1]
      rfl
    rw [e, e2, dg_notnil]
    simp only [cond_false, len, List.length_append, List.length_cons, List.length_nil]
    rw [show (-3 : Int) + (((dg m).length + (0 + 1 + 1 + 1) : Nat) - ((dg (cz m).1).length : Nat)) = ((cz m).2 : Int) by omega]
def isPf (pf : List UInt8) (b : Bool) : Prop := (pf = [45] ∧ b = true) ∨ (pf = [43] ∧ b = false) ∨ (pf = [] ∧ b = false)
theorem dig_not (c : UInt8) (h : dig c = true) (k : UInt8) (hk : dig k = false) : (c == k) = false := by
  rw [beq_eq_false_iff_ne]; intro e; rw [e, hk] at h; cases h
theorem sgn_pf (pf : List UInt8) (b : Bool) (hp : isPf pf b) (c : UInt8) (r : List UInt8) (h : dig c = true) : sgn (pf ++ c :: r) = (c :: r, b) := by
  rcases hp with ⟨rfl, rfl⟩ | ⟨rfl, rfl⟩ | ⟨rfl, rfl⟩
  · rfl
  · rfl
  · show sgn (c :: r) = _
    simp only [sgn, dig_not c h 45 (by decide), dig_not c h 43 (by decide), cond_false]
theorem pre_pf (pf : List UInt8) (b : Bool) (hp : isPf pf b) (k : UInt8) (hk : dig k = false) (x : List UInt8) (h : allg x = true) : pre [48, k] (pf ++ x) = false := by
  rcases hp with ⟨rfl, rfl⟩ | ⟨rfl, rfl⟩ | ⟨rfl, rfl⟩
  · rfl
  · rfl
  · match x, h with
    | [], _ => rfl
    | [c], _ => simp [pre]
    | c :: d :: r, h =>
      simp only [allg, Bool.and_eq_true] at h
      simp only [List.nil_append, pre, dig_not d h.2.1 k hk, Bool.false_and, Bool.and_false]
theorem iv_int (pf : List UInt8) (b : Bool) (hp : isPf pf b) (z m : Nat) (hz : z ≤ 50) (hm : m < 10 ^ 19) (hb : m = 0 → b = false) : iv (pf ++ (List.replicate z 48 ++ dg m)) = (want b m, (true, ())) := by
  obtain ⟨h1, h2, h3⟩ := dg_ok m
  have hg : allg (List.replicate z 48 ++ dg m) = true := by rw [allg_app, allg_zeros, h1]; rfl
  have hl := dg_len 18 m hm
  have hne : List.replicate z 48 ++ dg m ≠ [] := by simp [h2]
  have hlen : (List.replicate z 48 ++ dg m).length ≤ 5000 := by simp; omega
  have hpl := pl_digits _ hg hne hlen
  rw [tl_zeros] at hpl
  unfold iv
  rw [pre_pf pf b hp 111 (by decide) _ hg, pre_pf pf b hp 120 (by decide) _ hg, cond_false, cond_false]
  have hs : sgn (pf ++ (List.replicate z 48 ++ dg m)) = (List.replicate z 48 ++ dg m, b) := by
    cases hx : List.replicate z 48 ++ dg m with
    | nil => exact absurd hx hne
    | cons c r =>
      rw [hx, allg, Bool.and_eq_true] at hg
      exact sgn_pf pf b hp c r hg.1
  rw [hs]
  simp only []
  rw [hpl]
  unfold fin
  simp only [cond_true]
  by_cases h0 : m = 0
  · subst h0
    rw [hb rfl, dg_zero]
    show (norm false [48] 0, (true, ())) = _
    rw [← dg_zero, norm_dg]
  · rw [h3 (by omega), dg_notnil, cond_false, dg_ne48 m (by omega), Bool.not_false, Bool.and_true, norm_dg]
theorem run_stop : ∀ (x : List UInt8) (k : UInt8) (r : List UInt8), allg x = true → dig k = false → run (x ++ k :: r) = x
  | [], k, r, _, hk => by unfold run; simp only [List.nil_append, List.takeWhile, hk]
  | c :: x, k, r, h, hk => by
    simp only [allg, Bool.and_eq_true] at h
    have := run_stop x k r h.2 hk
    unfold run at this ⊢
    simp only [List.cons_append, List.takeWhile, h.1, this]
theorem fl_int (pf : List UInt8) (b : Bool) (hp : isPf pf b) (z m : Nat) (hz : z ≤ 50) (hm : m < 10 ^ 19) : fl (pf ++ (List.replicate z 48 ++ dg m) ++ [46, 48, 48, 48, 101, 48]) = (want b m, (true, ())) := by
  obtain ⟨h1, h2, h3⟩ := dg_ok m
  have hg : allg (List.replicate z 48 ++ dg m) = true := by rw [allg_app, allg_zeros, h1]; rfl
  have hl := dg_len 18 m hm
  have hne : List.replicate z 48 ++ dg m ≠ [] := by simp [h2]
  have hlen : (List.replicate z 48 ++ dg m).length ≤ 4000 := by simp; omega
  have hn3 := norm_dg3 b z m
  rw [List.append_assoc pf]
  generalize hx : List.replicate z 48 ++ dg m = x at *
  cases x with
  | nil => exact absurd rfl hne
  | cons c r =>
    have hc : dig c = true := by rw [allg, Bool.and_eq_true] at hg; exact hg.1
    have hs : sgn (pf ++ ((c :: r) ++ [46, 48, 48, 48, 101, 48])) = ((c :: r) ++ [46, 48, 48, 48, 101, 48], b) := sgn_pf pf b hp c _ hc
    have n46 := dig_not c hc 46 (by decide)
    have hnan : isNan (pf ++ ((c :: r) ++ [46, 48, 48, 48, 101, 48])) = false := by
      have : ∀ (a d e : UInt8), ((pf ++ ((c :: r) ++ [46, 48, 48, 48, 101, 48])) == [46, a, d, e]) = false := fun a d e => by
        rcases hp with ⟨rfl, rfl⟩ | ⟨rfl, rfl⟩ | ⟨rfl, rfl⟩
        · rfl
        · rfl
        · show ((c == 46) && _) = false
          rw [n46]; rfl
      unfold isNan
      rw [this, this, this]; rfl
    have hinf : isInf ((c :: r) ++ [46, 48, 48, 48, 101, 48]) = false := by
      have : ∀ (a d e : UInt8), (((c :: r) ++ [46, 48, 48, 48, 101, 48]) == [46, a, d, e]) = false := fun a d e => by
        show ((c == 46) && _) = false
        rw [n46]; rfl
      unfold isInf
      rw [this, this, this]; rfl
    unfold fl
    rw [hnan, cond_false, hs]
    simp only []
    rw [hinf, cond_false]
    have hr : run ((c :: r) ++ [46, 48, 48, 48, 101, 48]) = c :: r := run_stop (c :: r) 46 _ hg (by decide)
    unfold num
    rw [hr, List.drop_left, ← List.drop_drop, List.drop_left]
    rw [show pre [46] [46, 48, 48, 48, 101, 48] = true from rfl, cond_true, show run (List.drop 1 [46, 48, 48, 48, 101, 48]) = [48, 48, 48] from rfl, ← List.drop_drop, ← List.drop_drop, List.drop_left]
    show (tail (c :: r) [48, 48, 48] [101, 48] b) = _
    unfold tail
    rw [show ex [101, 48] = (0, true) from by decide]
    have hle : ilt 5000 (len (c :: r) + len ([48, 48, 48] : List UInt8)) = false := ilt_f (by unfold len; simp only [List.length_cons, List.length_nil] at hlen ⊢; omega)
    rw [hle]
    simp only [Bool.not_true, Bool.false_or, List.isEmpty_cons, Bool.false_and, Bool.or_self, cond_false]
    show (norm b ((c :: r) ++ [48, 48, 48]) (-3), (true, ())) = _
    rw [hn3]
end Go.Proofs.YtpobfjjmnemioaaDoor
