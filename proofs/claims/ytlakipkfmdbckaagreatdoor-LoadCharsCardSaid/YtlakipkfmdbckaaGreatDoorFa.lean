/- Plain functions for the program's. -/
import Derived.Test.YtlakipkfmdbckaaGreatDoorGs
import Derived.Test.YtlakipkfmdbckaaGreatDoorProg
import Derived.KernelRfl
set_option linter.unusedSimpArgs false
set_option linter.unusedVariables false
namespace Go.Proofs.YtlakipkfmdbckaaGreatDoor
open Go Go.Iv Go.Gv
set_option maxRecDepth 100000
set_option linter.unusedVariables false
noncomputable def right (_n : Nat) (c : Int) : Option (Bool × Unit) :=
  Option.bind (bif (Go.Iv.ile (0 : Int) c) then
      bif (Go.Iv.ile c (1114111 : Int)) then
        bif (Go.Iv.ilt c (55296 : Int)) then
          some Bool.true
        else
        some (Go.Iv.ilt (57343 : Int) c)
      else
      some Bool.false
    else
    some Bool.false) fun b1 =>
  some (b1, ())
noncomputable def right_it : FnIt := ⟨18, [(false, (.int .i64))], [(false, .bool)], 0, fun n x => right n x.1⟩
theorem right_ok (n : Nat) : FnOK Go.Proofs.Tryz.prog hint shT right_it n :=
  FnOK.of (hk := fun β => (Known.mk [] []).hk β) (sh := shT) (fun m _ => KnownOK.hook KnownOK.nil m) (fun x => by kernel_rfl)

noncomputable def L6_3_Xexit0 : Tm := ⟨[(3, .one (.all 64 5 .byte true))], [], 64, 65, 1000⟩
noncomputable def L6_3_T : Tm := ⟨[(0, .one (.lst (.int .i64))), (3, .one (.all 64 5 .byte true)), (4, .one (.int .i64))], [], 64, 65, 1000⟩
noncomputable def L6_3 : Nat → (List Int) → (List UInt8) → Int → Option (((List UInt8) × Unit) × Unit)
  | 0, _, _, _ => none
  | n + 1, t0, t3, t4 =>
    bif (Go.Iv.ilt t4 (len t0)) then
      bif (Go.Iv.ile (0 : Int) t4) then
      Option.bind (t0[(Int.toNat t4)]?) fun x6 =>
      Option.bind (right (n + 1) x6) fun y7 =>
      bif (!y7.1) then
        bif (room (((List.length t3) + (List.length ((239 : UInt8) :: ((191 : UInt8) :: ((189 : UInt8) :: ([] : List UInt8)))))) * 2)) then
        L6_3 n t0 (t3 ++ ((239 : UInt8) :: ((191 : UInt8) :: ((189 : UInt8) :: ([] : List UInt8))))) (Go.IntKind.wrap Go.IntKind.i64 (t4 + (1 : Int)))
        else none
      else
      bif (Go.Iv.ilt x6 (128 : Int)) then
        bif (room (((List.length t3) + (List.length ((UInt8.ofNat (Int.toNat (Go.IntKind.wrap Go.IntKind.u8 x6))) :: ([] : List UInt8)))) * 2)) then
        L6_3 n t0 (t3 ++ ((UInt8.ofNat (Int.toNat (Go.IntKind.wrap Go.IntKind.u8 x6))) :: ([] : List UInt8))) (Go.IntKind.wrap Go.IntKind.i64 (t4 + (1 : Int)))
        else none
      else
      bif (Go.Iv.ilt x6 (2048 : Int)) then
        bif (room (((List.length t3) + (List.length ((UInt8.ofNat (Int.toNat (Go.IntKind.wrap Go.IntKind.u8 (orI Go.IntKind.i64 (192 : Int) (shrI Go.IntKind.i64 x6 6))))) :: ((UInt8.ofNat (Int.toNat (Go.IntKind.wrap Go.IntKind.u8 (orI Go.IntKind.i64 (128 : Int) (andI Go.IntKind.i64 x6 (63 : Int)))))) :: ([] : List UInt8))))) * 2)) then
        L6_3 n t0 (t3 ++ ((UInt8.ofNat (Int.toNat (Go.IntKind.wrap Go.IntKind.u8 (orI Go.IntKind.i64 (192 : Int) (shrI Go.IntKind.i64 x6 6))))) :: ((UInt8.ofNat (Int.toNat (Go.IntKind.wrap Go.IntKind.u8 (orI Go.IntKind.i64 (128 : Int) (andI Go.IntKind.i64 x6 (63 : Int)))))) :: ([] : List UInt8)))) (Go.IntKind.wrap Go.IntKind.i64 (t4 + (1 : Int)))
        else none
      else
      bif (Go.Iv.ilt x6 (65536 : Int)) then
        bif (room (((List.length t3) + (List.length ((UInt8.ofNat (Int.toNat (Go.IntKind.wrap Go.IntKind.u8 (orI Go.IntKind.i64 (224 : Int) (shrI Go.IntKind.i64 x6 12))))) :: ((UInt8.ofNat (Int.toNat (Go.IntKind.wrap Go.IntKind.u8 (orI Go.IntKind.i64 (128 : Int) (andI Go.IntKind.i64 (shrI Go.IntKind.i64 x6 6) (63 : Int)))))) :: ((UInt8.ofNat (Int.toNat (Go.IntKind.wrap Go.IntKind.u8 (orI Go.IntKind.i64 (128 : Int) (andI Go.IntKind.i64 x6 (63 : Int)))))) :: ([] : List UInt8)))))) * 2)) then
        L6_3 n t0 (t3 ++ ((UInt8.ofNat (Int.toNat (Go.IntKind.wrap Go.IntKind.u8 (orI Go.IntKind.i64 (224 : Int) (shrI Go.IntKind.i64 x6 12))))) :: ((UInt8.ofNat (Int.toNat (Go.IntKind.wrap Go.IntKind.u8 (orI Go.IntKind.i64 (128 : Int) (andI Go.IntKind.i64 (shrI Go.IntKind.i64 x6 6) (63 : Int)))))) :: ((UInt8.ofNat (Int.toNat (Go.IntKind.wrap Go.IntKind.u8 (orI Go.IntKind.i64 (128 : Int) (andI Go.IntKind.i64 x6 (63 : Int)))))) :: ([] : List UInt8))))) (Go.IntKind.wrap Go.IntKind.i64 (t4 + (1 : Int)))
        else none
      else
      bif (room (((List.length t3) + (List.length ((UInt8.ofNat (Int.toNat (Go.IntKind.wrap Go.IntKind.u8 (orI Go.IntKind.i64 (240 : Int) (shrI Go.IntKind.i64 x6 18))))) :: ((UInt8.ofNat (Int.toNat (Go.IntKind.wrap Go.IntKind.u8 (orI Go.IntKind.i64 (128 : Int) (andI Go.IntKind.i64 (shrI Go.IntKind.i64 x6 12) (63 : Int)))))) :: ((UInt8.ofNat (Int.toNat (Go.IntKind.wrap Go.IntKind.u8 (orI Go.IntKind.i64 (128 : Int) (andI Go.IntKind.i64 (shrI Go.IntKind.i64 x6 6) (63 : Int)))))) :: ((UInt8.ofNat (Int.toNat (Go.IntKind.wrap Go.IntKind.u8 (orI Go.IntKind.i64 (128 : Int) (andI Go.IntKind.i64 x6 (63 : Int)))))) :: ([] : List UInt8))))))) * 2)) then
      L6_3 n t0 (t3 ++ ((UInt8.ofNat (Int.toNat (Go.IntKind.wrap Go.IntKind.u8 (orI Go.IntKind.i64 (240 : Int) (shrI Go.IntKind.i64 x6 18))))) :: ((UInt8.ofNat (Int.toNat (Go.IntKind.wrap Go.IntKind.u8 (orI Go.IntKind.i64 (128 : Int) (andI Go.IntKind.i64 (shrI Go.IntKind.i64 x6 12) (63 : Int)))))) :: ((UInt8.ofNat (Int.toNat (Go.IntKind.wrap Go.IntKind.u8 (orI Go.IntKind.i64 (128 : Int) (andI Go.IntKind.i64 (shrI Go.IntKind.i64 x6 6) (63 : Int)))))) :: ((UInt8.ofNat (Int.toNat (Go.IntKind.wrap Go.IntKind.u8 (orI Go.IntKind.i64 (128 : Int) (andI Go.IntKind.i64 x6 (63 : Int)))))) :: ([] : List UInt8)))))) (Go.IntKind.wrap Go.IntKind.i64 (t4 + (1 : Int)))
      else none
      else none
    else
    some ((t3, ()), ())
noncomputable def L6_3_it : LoopIt := ⟨6, 3, none, L6_3_T, [(.exit 0, L6_3_Xexit0)], 2, fun n x => L6_3 n x.1.1 x.1.2.1 x.1.2.2.1⟩
theorem L6_3_Xexit0_ok : L6_3_Xexit0.ok Go.Proofs.Tryz.prog hint := by
  intro p hp
  cases hp
theorem L6_3_T_ok : L6_3_T.ok Go.Proofs.Tryz.prog hint := by
  intro p hp
  cases hp
theorem L6_3_ok : ∀ n, LoopOK Go.Proofs.Tryz.prog hint shT L6_3_it n :=
  LoopOK.of (hk := fun β => (Known.mk [right_it] []).hk β) (sh := shT) (OneLoop.of (by kernel_rfl)) L6_3_T_ok ⟨⟨L6_3_Xexit0_ok, Nat.le_refl _, Nat.le_refl _⟩, trivial⟩ (fun m => KnownOK.hook (KnownOK.nil.fn right_ok) m)
    (fun _ => by kernel_rfl) (fun m x => by kernel_rfl)

noncomputable def bytesR (n : Nat) (l : List Int) : Option ((List UInt8) × Unit) :=
  Option.bind (L6_3 n l ([] : List UInt8) (0 : Int)) fun y8 =>
  some (y8.1.1, ())
noncomputable def bytesR_it : FnIt := ⟨6, [(false, (.slc (.int .i64)))], [(false, (.slc .byte))], 2, fun n x => bytesR n x.1⟩
theorem bytesR_ok (n : Nat) : FnOK Go.Proofs.Tryz.prog hint shT bytesR_it n :=
  FnOK.of (hk := fun β => (Known.mk [] [L6_3_it]).hk β) (sh := shT) (fun m _ => KnownOK.hook (KnownOK.nil.loop L6_3_ok L6_3_T_ok) m) (fun x => by kernel_rfl)

noncomputable def is (_n : Nat) (c : Int) : Option (Bool × Unit) :=
  Option.bind (bif (Go.Iv.ile (0 : Int) c) then
      bif (Go.Iv.ile c (1114111 : Int)) then
        bif (Go.Iv.ilt c (55296 : Int)) then
          some Bool.true
        else
        some (Go.Iv.ile (57344 : Int) c)
      else
      some Bool.false
    else
    some Bool.false) fun b1 =>
  some (b1, ())
noncomputable def is_it : FnIt := ⟨28, [(false, (.int .i64))], [(false, .bool)], 0, fun n x => is n x.1⟩
theorem is_ok (n : Nat) : FnOK Go.Proofs.Tryz.prog hint shT is_it n :=
  FnOK.of (hk := fun β => (Known.mk [] []).hk β) (sh := shT) (fun m _ => KnownOK.hook KnownOK.nil m) (fun x => by kernel_rfl)

noncomputable def drs (_n : Nat) (p : List UInt8) : Option (Int × (Int × Unit)) :=
  bif (Go.Iv.ilt (len p) (1 : Int)) then
    some ((65533 : Int), (0 : Int), ())
  else
  Option.bind (p[0]?) fun x0 =>
  bif (Go.Iv.ilt (ub x0) (256 : Int)) then
  Option.bind (Go.Proofs.YtlakipkfmdbckaaGreatDoor.tab0[(Int.toNat (ub x0))]?) fun x1 =>
  bif (Nat.ble (UInt8.toNat (240 : UInt8)) (UInt8.toNat x1)) then
    Option.bind (p[0]?) fun x2 =>
    some ((orI Go.IntKind.i32 (andNotI Go.IntKind.i32 (Go.IntKind.wrap Go.IntKind.i32 (ub x2)) (shrI Go.IntKind.i32 (shlI Go.IntKind.i32 (Go.IntKind.wrap Go.IntKind.i32 (ub x1)) 31) 31)) (andI Go.IntKind.i32 (65533 : Int) (shrI Go.IntKind.i32 (shlI Go.IntKind.i32 (Go.IntKind.wrap Go.IntKind.i32 (ub x1)) 31) 31))), (1 : Int), ())
  else
  bif (Go.Iv.ilt (ub (shrB x1 4)) (16 : Int)) then
  Option.bind (Go.Proofs.YtlakipkfmdbckaaGreatDoor.tab1[(Int.toNat (ub (shrB x1 4)))]?) fun x3 =>
  bif (Go.Iv.ilt (len p) (Go.IntKind.wrap Go.IntKind.i64 (ub (x1 &&& (7 : UInt8))))) then
    some ((65533 : Int), (1 : Int), ())
  else
  Option.bind (p[1]?) fun x4 =>
  Option.bind (bif (Nat.blt (UInt8.toNat x4) (UInt8.toNat x3.1)) then
      some Bool.true
    else
    some (Nat.blt (UInt8.toNat x3.2) (UInt8.toNat x4))) fun b6 =>
  bif b6 then
    some ((65533 : Int), (1 : Int), ())
  else
  bif (Go.Iv.ile (Go.IntKind.wrap Go.IntKind.i64 (ub (x1 &&& (7 : UInt8)))) (2 : Int)) then
    some ((orI Go.IntKind.i32 (shlI Go.IntKind.i32 (Go.IntKind.wrap Go.IntKind.i32 (ub (x0 &&& (31 : UInt8)))) 6) (Go.IntKind.wrap Go.IntKind.i32 (ub (x4 &&& (63 : UInt8))))), (2 : Int), ())
  else
  Option.bind (p[2]?) fun x7 =>
  Option.bind (bif (Nat.blt (UInt8.toNat x7) (UInt8.toNat (128 : UInt8))) then
      some Bool.true
    else
    some (Nat.blt (UInt8.toNat (191 : UInt8)) (UInt8.toNat x7))) fun b9 =>
  bif b9 then
    some ((65533 : Int), (1 : Int), ())
  else
  bif (Go.Iv.ile (Go.IntKind.wrap Go.IntKind.i64 (ub (x1 &&& (7 : UInt8)))) (3 : Int)) then
    some ((orI Go.IntKind.i32 (orI Go.IntKind.i32 (shlI Go.IntKind.i32 (Go.IntKind.wrap Go.IntKind.i32 (ub (x0 &&& (15 : UInt8)))) 12) (shlI Go.IntKind.i32 (Go.IntKind.wrap Go.IntKind.i32 (ub (x4 &&& (63 : UInt8)))) 6)) (Go.IntKind.wrap Go.IntKind.i32 (ub (x7 &&& (63 : UInt8))))), (3 : Int), ())
  else
  Option.bind (p[3]?) fun x10 =>
  Option.bind (bif (Nat.blt (UInt8.toNat x10) (UInt8.toNat (128 : UInt8))) then
      some Bool.true
    else
    some (Nat.blt (UInt8.toNat (191 : UInt8)) (UInt8.toNat x10))) fun b12 =>
  bif b12 then
    some ((65533 : Int), (1 : Int), ())
  else
  some ((orI Go.IntKind.i32 (orI Go.IntKind.i32 (orI Go.IntKind.i32 (shlI Go.IntKind.i32 (Go.IntKind.wrap Go.IntKind.i32 (ub (x0 &&& (7 : UInt8)))) 18) (shlI Go.IntKind.i32 (Go.IntKind.wrap Go.IntKind.i32 (ub (x4 &&& (63 : UInt8)))) 12)) (shlI Go.IntKind.i32 (Go.IntKind.wrap Go.IntKind.i32 (ub (x7 &&& (63 : UInt8)))) 6)) (Go.IntKind.wrap Go.IntKind.i32 (ub (x10 &&& (63 : UInt8))))), (4 : Int), ())
  else none
  else none
noncomputable def drs_it : FnIt := ⟨110, [(false, (.slc .byte))], [(false, (.int .i32)), (false, (.int .i64))], 0, fun n x => drs n x.1⟩
theorem drs_ok (n : Nat) : FnOK Go.Proofs.Tryz.prog hint shT drs_it n :=
  FnOK.of (hk := fun β => (Known.mk [] []).hk β) (sh := shT) (fun m _ => KnownOK.hook KnownOK.nil m) (fun x => by kernel_rfl)

noncomputable def L84_2_Xexit0 : Tm := ⟨[(0, .one (.lst .byte))], [], 64, 64, 1000⟩
noncomputable def L84_2_Xret : Tm := ⟨[(2, .one (.int .i32)), (3, .one (.int .i64))], [], 64, 64, 1000⟩
noncomputable def L84_2_T : Tm := ⟨[(0, .one (.lst .byte)), (6, .one (.lst .byte)), (7, .one (.int .i64)), (8, .one (.int .i64))], [], 64, 64, 1000⟩
noncomputable def L84_2 : Nat → (List UInt8) → (List UInt8) → Int → Int → Option ((((List UInt8) × Unit) × Unit) ⊕ ((Int × (Int × Unit)) × Unit))
  | 0, _, _, _, _ => none
  | _ + 1, t0, t6, t7, t8 =>
    bif (Go.Iv.ilt t8 t7) then
      bif (Go.Iv.ile (0 : Int) t8) then
      Option.bind (t6[(Int.toNat t8)]?) fun x2 =>
      bif (Nat.blt (UInt8.toNat x2) (UInt8.toNat (128 : UInt8))) then
        some (.inr (((Go.IntKind.wrap Go.IntKind.i32 (ub x2)), ((1 : Int), ())), ()))
      else
      some (.inl ((t0, ()), ()))
      else none
    else
    some (.inl ((t0, ()), ()))
noncomputable def L84_2_it : LoopIt := ⟨84, 2, none, L84_2_T, [(.exit 0, L84_2_Xexit0), (.ret, L84_2_Xret)], 0, fun n x => L84_2 n x.1.1 x.1.2.1 x.1.2.2.1 x.1.2.2.2.1⟩
theorem L84_2_Xexit0_ok : L84_2_Xexit0.ok Go.Proofs.Tryz.prog hint := by
  intro p hp
  cases hp
theorem L84_2_Xret_ok : L84_2_Xret.ok Go.Proofs.Tryz.prog hint := by
  intro p hp
  cases hp
theorem L84_2_T_ok : L84_2_T.ok Go.Proofs.Tryz.prog hint := by
  intro p hp
  cases hp
theorem L84_2_ok : ∀ n, LoopOK Go.Proofs.Tryz.prog hint shT L84_2_it n :=
  LoopOK.of (hk := fun β => (Known.mk [] []).hk β) (sh := shT) (OneLoop.of (by kernel_rfl)) L84_2_T_ok ⟨⟨L84_2_Xexit0_ok, Nat.le_refl _, Nat.le_refl _⟩, ⟨L84_2_Xret_ok, Nat.le_refl _, Nat.le_refl _⟩, trivial⟩ (fun m => KnownOK.hook KnownOK.nil m)
    (fun _ => by kernel_rfl) (fun m x => by kernel_rfl)

noncomputable def dr (n : Nat) (p : List UInt8) : Option (Int × (Int × Unit)) :=
  Option.bind (L84_2 (n + 1) p p (len p) (0 : Int)) fun y3 =>
  match y3 with
    | .inl y4 =>
      Option.bind (drs n y4.1.1) fun y6 =>
      some (y6.1, y6.2.1, ())
    | .inr y5 =>
      some (y5.1.1, y5.1.2.1, ())
noncomputable def dr_it : FnIt := ⟨84, [(false, (.slc .byte))], [(false, (.int .i32)), (false, (.int .i64))], 1, fun n x => dr n x.1⟩
theorem dr_ok (n : Nat) : FnOK Go.Proofs.Tryz.prog hint shT dr_it n :=
  FnOK.of (hk := fun β => (Known.mk [drs_it] [L84_2_it]).hk β) (sh := shT) (fun m _ => KnownOK.hook ((KnownOK.nil.loop L84_2_ok L84_2_T_ok).fn drs_ok) m) (fun x => by kernel_rfl)

noncomputable def L48_2_Xexit0 : Tm := ⟨[], [(64, .cells 106 [.int .i64, .int .i64, .int .i64, .int .i64, .int .i64, .int .i64] true)], 65, 65, 1001⟩
noncomputable def L48_2_Xret : Tm := ⟨[(4, .one (.bool))], [(64, .cells 106 [.int .i64, .int .i64, .int .i64, .int .i64, .int .i64, .int .i64] true)], 65, 65, 1001⟩
noncomputable def L48_2_T : Tm := ⟨[(1, .one (.lst .byte)), (8, .agg [.int .i64, .int .i64, .int .i64, .int .i64]), (9, .one (.int .i64))], [(64, .cells 106 [.int .i64, .int .i64, .int .i64, .int .i64, .int .i64, .int .i64] true)], 65, 65, 1001⟩
noncomputable def L48_2 : Nat → (List UInt8) → Int → Int → Int → Int → Int → Int → Int → Int → Int → Int → Int → Option ((Unit × ((Int × (Int × (Int × (Int × (Int × (Int × Unit)))))) × Unit)) ⊕ ((Bool × Unit) × ((Int × (Int × (Int × (Int × (Int × (Int × Unit)))))) × Unit)))
  | 0, _, _, _, _, _, _, _, _, _, _, _, _ => none
  | n + 1, t1, t8_0, t8_1, t8_2, t8_3, t9, c64_0, c64_1, c64_2, c64_3, c64_4, c64_5 =>
    bif (Go.Iv.ilt t9 (4 : Int)) then
      bif (t9 == (3 : Int)) then
        bif (t8_3 == (-(2 : Int))) then
          L48_2 n t1 t8_0 t8_1 t8_2 t8_3 (Go.IntKind.wrap Go.IntKind.i64 (t9 + (1 : Int))) c64_0 c64_1 c64_2 c64_3 c64_4 c64_5
        else
        bif (Go.Iv.ile (len t1) t9) then
          some (.inr ((Bool.false, ()), ((c64_0, (c64_1, (c64_2, (c64_3, (c64_4, (c64_5, ())))))), ())))
        else
        Option.bind (bif (t8_3 == (-(1 : Int))) then
            bif (Go.Iv.ile (0 : Int) t9) then
            Option.bind (t1[(Int.toNat t9)]?) fun x49 =>
            some (x49 == (0 : UInt8))
            else none
          else
          some Bool.false) fun b50 =>
        bif b50 then
          some (.inr ((Bool.false, ()), ((c64_0, (c64_1, (c64_2, (c64_3, (c64_4, (c64_5, ())))))), ())))
        else
        Option.bind (bif (Go.Iv.ile (0 : Int) t8_3) then
            bif (Go.Iv.ile (0 : Int) t9) then
            Option.bind (t1[(Int.toNat t9)]?) fun x52 =>
            some ((Go.IntKind.wrap Go.IntKind.i64 (ub x52)) != t8_3)
            else none
          else
          some Bool.false) fun b53 =>
        bif b53 then
          some (.inr ((Bool.false, ()), ((c64_0, (c64_1, (c64_2, (c64_3, (c64_4, (c64_5, ())))))), ())))
        else
        L48_2 n t1 t8_0 t8_1 t8_2 t8_3 (Go.IntKind.wrap Go.IntKind.i64 (t9 + (1 : Int))) c64_0 c64_1 c64_2 c64_3 c64_4 c64_5
      else
      bif (t9 == (2 : Int)) then
        bif (t8_2 == (-(2 : Int))) then
          L48_2 n t1 t8_0 t8_1 t8_2 t8_3 (Go.IntKind.wrap Go.IntKind.i64 (t9 + (1 : Int))) c64_0 c64_1 c64_2 c64_3 c64_4 c64_5
        else
        bif (Go.Iv.ile (len t1) t9) then
          some (.inr ((Bool.false, ()), ((c64_0, (c64_1, (c64_2, (c64_3, (c64_4, (c64_5, ())))))), ())))
        else
        Option.bind (bif (t8_2 == (-(1 : Int))) then
            bif (Go.Iv.ile (0 : Int) t9) then
            Option.bind (t1[(Int.toNat t9)]?) fun x55 =>
            some (x55 == (0 : UInt8))
            else none
          else
          some Bool.false) fun b56 =>
        bif b56 then
          some (.inr ((Bool.false, ()), ((c64_0, (c64_1, (c64_2, (c64_3, (c64_4, (c64_5, ())))))), ())))
        else
        Option.bind (bif (Go.Iv.ile (0 : Int) t8_2) then
            bif (Go.Iv.ile (0 : Int) t9) then
            Option.bind (t1[(Int.toNat t9)]?) fun x58 =>
            some ((Go.IntKind.wrap Go.IntKind.i64 (ub x58)) != t8_2)
            else none
          else
          some Bool.false) fun b59 =>
        bif b59 then
          some (.inr ((Bool.false, ()), ((c64_0, (c64_1, (c64_2, (c64_3, (c64_4, (c64_5, ())))))), ())))
        else
        L48_2 n t1 t8_0 t8_1 t8_2 t8_3 (Go.IntKind.wrap Go.IntKind.i64 (t9 + (1 : Int))) c64_0 c64_1 c64_2 c64_3 c64_4 c64_5
      else
      bif (t9 == (1 : Int)) then
        bif (t8_1 == (-(2 : Int))) then
          L48_2 n t1 t8_0 t8_1 t8_2 t8_3 (Go.IntKind.wrap Go.IntKind.i64 (t9 + (1 : Int))) c64_0 c64_1 c64_2 c64_3 c64_4 c64_5
        else
        bif (Go.Iv.ile (len t1) t9) then
          some (.inr ((Bool.false, ()), ((c64_0, (c64_1, (c64_2, (c64_3, (c64_4, (c64_5, ())))))), ())))
        else
        Option.bind (bif (t8_1 == (-(1 : Int))) then
            bif (Go.Iv.ile (0 : Int) t9) then
            Option.bind (t1[(Int.toNat t9)]?) fun x61 =>
            some (x61 == (0 : UInt8))
            else none
          else
          some Bool.false) fun b62 =>
        bif b62 then
          some (.inr ((Bool.false, ()), ((c64_0, (c64_1, (c64_2, (c64_3, (c64_4, (c64_5, ())))))), ())))
        else
        Option.bind (bif (Go.Iv.ile (0 : Int) t8_1) then
            bif (Go.Iv.ile (0 : Int) t9) then
            Option.bind (t1[(Int.toNat t9)]?) fun x64 =>
            some ((Go.IntKind.wrap Go.IntKind.i64 (ub x64)) != t8_1)
            else none
          else
          some Bool.false) fun b65 =>
        bif b65 then
          some (.inr ((Bool.false, ()), ((c64_0, (c64_1, (c64_2, (c64_3, (c64_4, (c64_5, ())))))), ())))
        else
        L48_2 n t1 t8_0 t8_1 t8_2 t8_3 (Go.IntKind.wrap Go.IntKind.i64 (t9 + (1 : Int))) c64_0 c64_1 c64_2 c64_3 c64_4 c64_5
      else
      bif (t9 == (0 : Int)) then
        bif (t8_0 == (-(2 : Int))) then
          L48_2 n t1 t8_0 t8_1 t8_2 t8_3 (Go.IntKind.wrap Go.IntKind.i64 (t9 + (1 : Int))) c64_0 c64_1 c64_2 c64_3 c64_4 c64_5
        else
        bif (Go.Iv.ile (len t1) t9) then
          some (.inr ((Bool.false, ()), ((c64_0, (c64_1, (c64_2, (c64_3, (c64_4, (c64_5, ())))))), ())))
        else
        Option.bind (bif (t8_0 == (-(1 : Int))) then
            bif (Go.Iv.ile (0 : Int) t9) then
            Option.bind (t1[(Int.toNat t9)]?) fun x67 =>
            some (x67 == (0 : UInt8))
            else none
          else
          some Bool.false) fun b68 =>
        bif b68 then
          some (.inr ((Bool.false, ()), ((c64_0, (c64_1, (c64_2, (c64_3, (c64_4, (c64_5, ())))))), ())))
        else
        Option.bind (bif (Go.Iv.ile (0 : Int) t8_0) then
            bif (Go.Iv.ile (0 : Int) t9) then
            Option.bind (t1[(Int.toNat t9)]?) fun x70 =>
            some ((Go.IntKind.wrap Go.IntKind.i64 (ub x70)) != t8_0)
            else none
          else
          some Bool.false) fun b71 =>
        bif b71 then
          some (.inr ((Bool.false, ()), ((c64_0, (c64_1, (c64_2, (c64_3, (c64_4, (c64_5, ())))))), ())))
        else
        L48_2 n t1 t8_0 t8_1 t8_2 t8_3 (Go.IntKind.wrap Go.IntKind.i64 (t9 + (1 : Int))) c64_0 c64_1 c64_2 c64_3 c64_4 c64_5
      else
      none
    else
    some (.inl ((), ((c64_0, (c64_1, (c64_2, (c64_3, (c64_4, (c64_5, ())))))), ())))
noncomputable def L48_2_it : LoopIt := ⟨48, 2, none, L48_2_T, [(.exit 0, L48_2_Xexit0), (.ret, L48_2_Xret)], 0, fun n x => L48_2 n x.1.1 x.1.2.1.1 x.1.2.1.2.1 x.1.2.1.2.2.1 x.1.2.1.2.2.2.1 x.1.2.2.1 x.2.1.1 x.2.1.2.1 x.2.1.2.2.1 x.2.1.2.2.2.1 x.2.1.2.2.2.2.1 x.2.1.2.2.2.2.2.1⟩
theorem L48_2_Xexit0_ok : L48_2_Xexit0.ok Go.Proofs.Tryz.prog hint := by
  intro p hp
  simp only [L48_2_Xexit0, List.mem_cons, List.not_mem_nil, or_false] at hp
  rcases hp with rfl
  · trivial
theorem L48_2_Xret_ok : L48_2_Xret.ok Go.Proofs.Tryz.prog hint := by
  intro p hp
  simp only [L48_2_Xret, List.mem_cons, List.not_mem_nil, or_false] at hp
  rcases hp with rfl
  · trivial
theorem L48_2_T_ok : L48_2_T.ok Go.Proofs.Tryz.prog hint := by
  intro p hp
  simp only [L48_2_T, List.mem_cons, List.not_mem_nil, or_false] at hp
  rcases hp with rfl
  · trivial
theorem L48_2_ok : ∀ n, LoopOK Go.Proofs.Tryz.prog hint shT L48_2_it n :=
  LoopOK.of (hk := fun β => (Known.mk [] []).hk β) (sh := shT) (OneLoop.of (by kernel_rfl)) L48_2_T_ok ⟨⟨L48_2_Xexit0_ok, Nat.le_refl _, Nat.le_refl _⟩, ⟨L48_2_Xret_ok, Nat.le_refl _, Nat.le_refl _⟩, trivial⟩ (fun m => KnownOK.hook KnownOK.nil m)
    (fun _ => by kernel_rfl) (fun m x => by kernel_rfl)

noncomputable def fits (n : Nat) (r : (Int × (Int × (Int × (Int × (Int × Int)))))) (b : List UInt8) : Option (Bool × Unit) :=
  Option.bind (L48_2 (n + 1) b r.2.2.1 r.2.2.2.1 r.2.2.2.2.1 r.2.2.2.2.2 (0 : Int) r.1 r.2.1 r.2.2.1 r.2.2.2.1 r.2.2.2.2.1 r.2.2.2.2.2) fun y72 =>
  match y72 with
    | .inl _ =>
      some (Bool.true, ())
    | .inr y74 =>
      some (y74.1.1, ())
noncomputable def fits_it : FnIt := ⟨48, [(true, (.cons (.int .i64) (.cons (.int .i64) (.cons (.int .i64) (.cons (.int .i64) (.cons (.int .i64) (.int .i64))))))), (false, (.slc .byte))], [(false, .bool)], 1, fun n x => fits n x.1 x.2.1⟩
theorem fits_ok (n : Nat) : FnOK Go.Proofs.Tryz.prog hint shT fits_it n :=
  FnOK.of (hk := fun β => (Known.mk [] [L48_2_it]).hk β) (sh := shT) (fun m _ => KnownOK.hook (KnownOK.nil.loop L48_2_ok L48_2_T_ok) m) (fun x => by kernel_rfl)

noncomputable def L26_2_Xexit0 : Tm := ⟨[], [], 65, 65, 1001⟩
noncomputable def L26_2_Xret : Tm := ⟨[(2, .one (.int .i64)), (3, .one (.int .i64))], [], 65, 65, 1001⟩
noncomputable def L26_2_T : Tm := ⟨[(0, .one (.lst .byte)), (6, .one (.all 65 106 (.cons (.int .i64) (.cons (.int .i64) (.cons (.int .i64) (.cons (.int .i64) (.cons (.int .i64) (.int .i64)))))) false)), (7, .one (.int .i64)), (8, .one (.int .i64))], [], 65, 66, 1001⟩
noncomputable def L26_2 : Nat → (List UInt8) → (List (Int × (Int × (Int × (Int × (Int × Int)))))) → Int → Int → Option ((Unit × Unit) ⊕ ((Int × (Int × Unit)) × Unit))
  | 0, _, _, _, _ => none
  | n + 1, t0, t6, t7, t8 =>
    bif (Go.Iv.ilt t8 t7) then
      bif ((Go.Iv.ile (0 : Int) t8) && (Go.Iv.ilt t8 (len t6))) then
      Option.bind (t6[(Int.toNat t8)]?) fun x4 =>
      Option.bind (fits (n + 1) (x4.1, (x4.2.1, (x4.2.2.1, (x4.2.2.2.1, (x4.2.2.2.2.1, x4.2.2.2.2.2))))) t0) fun y5 =>
      bif y5.1 then
        some (.inr ((x4.1, (x4.2.1, ())), ()))
      else
      L26_2 n t0 t6 t7 (Go.IntKind.wrap Go.IntKind.i64 (t8 + (1 : Int)))
      else none
    else
    some (.inl ((), ()))
noncomputable def L26_2_it : LoopIt := ⟨26, 2, none, L26_2_T, [(.exit 0, L26_2_Xexit0), (.ret, L26_2_Xret)], 2, fun n x => L26_2 n x.1.1 x.1.2.1 x.1.2.2.1 x.1.2.2.2.1⟩
theorem L26_2_Xexit0_ok : L26_2_Xexit0.ok Go.Proofs.Tryz.prog hint := by
  intro p hp
  cases hp
theorem L26_2_Xret_ok : L26_2_Xret.ok Go.Proofs.Tryz.prog hint := by
  intro p hp
  cases hp
theorem L26_2_T_ok : L26_2_T.ok Go.Proofs.Tryz.prog hint := by
  intro p hp
  cases hp
theorem L26_2_ok : ∀ n, LoopOK Go.Proofs.Tryz.prog hint shT L26_2_it n :=
  LoopOK.of (hk := fun β => (Known.mk [fits_it] []).hk β) (sh := shT) (OneLoop.of (by kernel_rfl)) L26_2_T_ok ⟨⟨L26_2_Xexit0_ok, Nat.le_refl _, Nat.le_refl _⟩, ⟨L26_2_Xret_ok, Nat.le_refl _, Nat.le_refl _⟩, trivial⟩ (fun m => KnownOK.hook (KnownOK.nil.fn fits_ok) m)
    (fun _ => by kernel_rfl) (fun m x => by kernel_rfl)

noncomputable def form (n : Nat) (b : List UInt8) : Option (Int × (Int × Unit)) :=
  Option.bind (L26_2 n b (((4 : Int), ((4 : Int), ((0 : Int), ((0 : Int), ((254 : Int), (255 : Int)))))) :: (((5 : Int), ((4 : Int), ((255 : Int), ((254 : Int), ((0 : Int), (0 : Int)))))) :: (((2 : Int), ((2 : Int), ((254 : Int), ((255 : Int), ((-(2 : Int)), (-(2 : Int))))))) :: (((3 : Int), ((2 : Int), ((255 : Int), ((254 : Int), ((-(2 : Int)), (-(2 : Int))))))) :: (((1 : Int), ((3 : Int), ((239 : Int), ((187 : Int), ((191 : Int), (-(2 : Int))))))) :: (((4 : Int), ((0 : Int), ((0 : Int), ((0 : Int), ((0 : Int), (-(1 : Int))))))) :: (((5 : Int), ((0 : Int), ((-(1 : Int)), ((0 : Int), ((0 : Int), (0 : Int)))))) :: (((2 : Int), ((0 : Int), ((0 : Int), ((-(1 : Int)), ((-(2 : Int)), (-(2 : Int))))))) :: (((3 : Int), ((0 : Int), ((-(1 : Int)), ((0 : Int), ((-(2 : Int)), (-(2 : Int))))))) :: []))))))))) (9 : Int) (0 : Int)) fun y6 =>
  match y6 with
    | .inl _ =>
      some ((1 : Int), (0 : Int), ())
    | .inr y8 =>
      some (y8.1.1, y8.1.2.1, ())
noncomputable def form_it : FnIt := ⟨26, [(false, (.slc .byte))], [(false, (.int .i64)), (false, (.int .i64))], 2, fun n x => form n x.1⟩
theorem form_ok (n : Nat) : FnOK Go.Proofs.Tryz.prog hint shT form_it n :=
  FnOK.of (hk := fun β => (Known.mk [] [L26_2_it]).hk β) (sh := shT) (fun m _ => KnownOK.hook (KnownOK.nil.loop L26_2_ok L26_2_T_ok) m) (fun x => by kernel_rfl)

noncomputable def L82_3_Xexit0 : Tm := ⟨[(5, .one (.int .i64))], [(64, .cells 26 [.fix (Go.Gv.TV.raw (Go.Value.slice (Option.none) 0 0))] true), (65, .cells 30 [.int .i64] true), (66, .cells 26 [.fix (Go.Gv.TV.raw (Go.Value.slice (Option.none) 0 0))] true), (67, .cells 24 [.lst .byte] true), (68, .cells 4 [.bool] true), (69, .loop 15 Go.LoopState.ready (Option.none) (fiIn Go.Proofs.Tryz.prog hint 15) [(2, .one (.fix (Go.Gv.TV.ptr 64 0))), (3, .one (.fix (Go.Gv.TV.ptr 65 0))), (6, .one (.fix (Go.Gv.TV.ptr 66 0)))] (rangeIn Go.Proofs.Tryz.prog 15 7).1 (rangeIn Go.Proofs.Tryz.prog 15 7).2.1 (rangeIn Go.Proofs.Tryz.prog 15 7).2.2), (70, .cells 23 [.fix (Go.Gv.TV.yld 69)] true), (71, .cells 3 [.int .i64] true), (72, .cells 24 [.lst .byte] true), (73, .cells 3 [.int .i64] true), (74, .cells 4 [.bool] true), (75, .loop 80 Go.LoopState.ready (Option.none) (fiIn Go.Proofs.Tryz.prog hint 80) [(3, .one (.fix (Go.Gv.TV.ptr 70 0))), (4, .one (.fix (Go.Gv.TV.ptr 71 0)))] (rangeIn Go.Proofs.Tryz.prog 80 4).1 (rangeIn Go.Proofs.Tryz.prog 80 4).2.1 (rangeIn Go.Proofs.Tryz.prog 80 4).2.2)], 76, 76, 2014⟩
noncomputable def L82_3_T : Tm := ⟨[(0, .one (.lst .byte)), (1, .one (.bool)), (5, .one (.int .i64)), (9, .one (.int .i64)), (10, .one (.int .i64))], [(64, .cells 26 [.fix (Go.Gv.TV.raw (Go.Value.slice (Option.none) 0 0))] true), (65, .cells 30 [.int .i64] true), (66, .cells 26 [.fix (Go.Gv.TV.raw (Go.Value.slice (Option.none) 0 0))] true), (67, .cells 24 [.lst .byte] true), (68, .cells 4 [.bool] true), (69, .loop 15 Go.LoopState.ready (Option.none) (fiIn Go.Proofs.Tryz.prog hint 15) [(2, .one (.fix (Go.Gv.TV.ptr 64 0))), (3, .one (.fix (Go.Gv.TV.ptr 65 0))), (6, .one (.fix (Go.Gv.TV.ptr 66 0)))] (rangeIn Go.Proofs.Tryz.prog 15 7).1 (rangeIn Go.Proofs.Tryz.prog 15 7).2.1 (rangeIn Go.Proofs.Tryz.prog 15 7).2.2), (70, .cells 23 [.fix (Go.Gv.TV.yld 69)] true), (71, .cells 3 [.int .i64] true), (72, .cells 24 [.lst .byte] true), (73, .cells 3 [.int .i64] true), (74, .cells 4 [.bool] true), (75, .loop 80 Go.LoopState.ready (Option.none) (fiIn Go.Proofs.Tryz.prog hint 80) [(3, .one (.fix (Go.Gv.TV.ptr 70 0))), (4, .one (.fix (Go.Gv.TV.ptr 71 0)))] (rangeIn Go.Proofs.Tryz.prog 80 4).1 (rangeIn Go.Proofs.Tryz.prog 80 4).2.1 (rangeIn Go.Proofs.Tryz.prog 80 4).2.2)], 76, 76, 2014⟩
noncomputable def L82_3 : Nat → (List UInt8) → Bool → Int → Int → Int → Int → (List UInt8) → Bool → Int → (List UInt8) → Int → Bool → Option ((Int × Unit) × ((Unit × Unit) × ((Int × Unit) × ((Unit × Unit) × (((List UInt8) × Unit) × ((Bool × Unit) × ((Unit × (Unit × (Unit × Unit))) × ((Unit × Unit) × ((Int × Unit) × (((List UInt8) × Unit) × ((Int × Unit) × ((Bool × Unit) × ((Unit × (Unit × Unit)) × Unit)))))))))))))
  | 0, _, _, _, _, _, _, _, _, _, _, _, _ => none
  | n + 1, t0, t1, t5, t9, t10, c65_0, c67_0, c68_0, c71_0, c72_0, c73_0, c74_0 =>
    bif (Go.Iv.ilt t10 t9) then
      bif (Go.Iv.ile (0 : Int) (Go.IntKind.wrap Go.IntKind.i64 ((Go.IntKind.wrap Go.IntKind.i64 ((len t0) - (1 : Int))) - t10))) then
      Option.bind (t0[(Int.toNat (Go.IntKind.wrap Go.IntKind.i64 ((Go.IntKind.wrap Go.IntKind.i64 ((len t0) - (1 : Int))) - t10)))]?) fun x5 =>
      bif t1 then
        bif (Go.Iv.ile (0 : Int) t10) then
        Option.bind (t0[(Int.toNat t10)]?) fun x6 =>
        L82_3 n t0 t1 (orI Go.IntKind.i64 (shlI Go.IntKind.i64 t5 8) (Go.IntKind.wrap Go.IntKind.i64 (ub x6))) t9 (Go.IntKind.wrap Go.IntKind.i64 (t10 + (1 : Int))) c65_0 c67_0 c68_0 c71_0 c72_0 c73_0 c74_0
        else none
      else
      L82_3 n t0 t1 (orI Go.IntKind.i64 (shlI Go.IntKind.i64 t5 8) (Go.IntKind.wrap Go.IntKind.i64 (ub x5))) t9 (Go.IntKind.wrap Go.IntKind.i64 (t10 + (1 : Int))) c65_0 c67_0 c68_0 c71_0 c72_0 c73_0 c74_0
      else none
    else
    some ((t5, ()), (((), ()), ((c65_0, ()), (((), ()), ((c67_0, ()), ((c68_0, ()), (((), ((), ((), ()))), (((), ()), ((c71_0, ()), ((c72_0, ()), ((c73_0, ()), ((c74_0, ()), (((), ((), ())), ())))))))))))))
noncomputable def L82_3_it : LoopIt := ⟨82, 3, none, L82_3_T, [(.exit 0, L82_3_Xexit0)], 0, fun n x => L82_3 n x.1.1 x.1.2.1 x.1.2.2.1 x.1.2.2.2.1 x.1.2.2.2.2.1 x.2.2.1.1 x.2.2.2.2.1.1 x.2.2.2.2.2.1.1 x.2.2.2.2.2.2.2.2.1.1 x.2.2.2.2.2.2.2.2.2.1.1 x.2.2.2.2.2.2.2.2.2.2.1.1 x.2.2.2.2.2.2.2.2.2.2.2.1.1⟩
theorem L82_3_Xexit0_ok : L82_3_Xexit0.ok Go.Proofs.Tryz.prog hint := by
  intro p hp
  simp only [L82_3_Xexit0, List.mem_cons, List.not_mem_nil, or_false] at hp
  rcases hp with rfl | rfl | rfl | rfl | rfl | rfl | rfl | rfl | rfl | rfl | rfl | rfl
  · trivial
  · trivial
  · trivial
  · trivial
  · trivial
  · exact Uniq.of (by kernel_rfl) (by kernel_rfl)
  · trivial
  · trivial
  · trivial
  · trivial
  · trivial
  · exact Uniq.of (by kernel_rfl) (by kernel_rfl)
theorem L82_3_T_ok : L82_3_T.ok Go.Proofs.Tryz.prog hint := by
  intro p hp
  simp only [L82_3_T, List.mem_cons, List.not_mem_nil, or_false] at hp
  rcases hp with rfl | rfl | rfl | rfl | rfl | rfl | rfl | rfl | rfl | rfl | rfl | rfl
  · trivial
  · trivial
  · trivial
  · trivial
  · trivial
  · exact Uniq.of (by kernel_rfl) (by kernel_rfl)
  · trivial
  · trivial
  · trivial
  · trivial
  · trivial
  · exact Uniq.of (by kernel_rfl) (by kernel_rfl)
theorem L82_3_ok : ∀ n, LoopOK Go.Proofs.Tryz.prog hint shT L82_3_it n :=
  LoopOK.of (hk := fun β => (Known.mk [] []).hk β) (sh := shT) (OneLoop.of (by kernel_rfl)) L82_3_T_ok ⟨⟨L82_3_Xexit0_ok, Nat.le_refl _, Nat.le_refl _⟩, trivial⟩ (fun m => KnownOK.hook KnownOK.nil m)
    (fun _ => by kernel_rfl) (fun m x => by kernel_rfl)

noncomputable def L82_3_77_Xexit0 : Tm := ⟨[(5, .one (.int .i64))], [(64, .cells 26 [.fix (Go.Gv.TV.raw (Go.Value.slice (Option.none) 0 0))] true), (65, .cells 30 [.int .i64] true), (66, .cells 26 [.all 77 3 (.int .i64) true] true), (67, .cells 24 [.lst .byte] true), (68, .cells 4 [.bool] true), (69, .loop 15 Go.LoopState.ready (Option.none) (fiIn Go.Proofs.Tryz.prog hint 15) [(2, .one (.fix (Go.Gv.TV.ptr 64 0))), (3, .one (.fix (Go.Gv.TV.ptr 65 0))), (6, .one (.fix (Go.Gv.TV.ptr 66 0)))] (rangeIn Go.Proofs.Tryz.prog 15 7).1 (rangeIn Go.Proofs.Tryz.prog 15 7).2.1 (rangeIn Go.Proofs.Tryz.prog 15 7).2.2), (70, .cells 23 [.fix (Go.Gv.TV.yld 69)] true), (71, .cells 3 [.int .i64] true), (72, .cells 24 [.lst .byte] true), (73, .cells 3 [.int .i64] true), (74, .cells 4 [.bool] true), (75, .loop 80 Go.LoopState.ready (Option.none) (fiIn Go.Proofs.Tryz.prog hint 80) [(3, .one (.fix (Go.Gv.TV.ptr 70 0))), (4, .one (.fix (Go.Gv.TV.ptr 71 0)))] (rangeIn Go.Proofs.Tryz.prog 80 4).1 (rangeIn Go.Proofs.Tryz.prog 80 4).2.1 (rangeIn Go.Proofs.Tryz.prog 80 4).2.2)], 77, 78, 2014⟩
noncomputable def L82_3_77_T : Tm := ⟨[(0, .one (.lst .byte)), (1, .one (.bool)), (5, .one (.int .i64)), (9, .one (.int .i64)), (10, .one (.int .i64))], [(64, .cells 26 [.fix (Go.Gv.TV.raw (Go.Value.slice (Option.none) 0 0))] true), (65, .cells 30 [.int .i64] true), (66, .cells 26 [.all 77 3 (.int .i64) true] true), (67, .cells 24 [.lst .byte] true), (68, .cells 4 [.bool] true), (69, .loop 15 Go.LoopState.ready (Option.none) (fiIn Go.Proofs.Tryz.prog hint 15) [(2, .one (.fix (Go.Gv.TV.ptr 64 0))), (3, .one (.fix (Go.Gv.TV.ptr 65 0))), (6, .one (.fix (Go.Gv.TV.ptr 66 0)))] (rangeIn Go.Proofs.Tryz.prog 15 7).1 (rangeIn Go.Proofs.Tryz.prog 15 7).2.1 (rangeIn Go.Proofs.Tryz.prog 15 7).2.2), (70, .cells 23 [.fix (Go.Gv.TV.yld 69)] true), (71, .cells 3 [.int .i64] true), (72, .cells 24 [.lst .byte] true), (73, .cells 3 [.int .i64] true), (74, .cells 4 [.bool] true), (75, .loop 80 Go.LoopState.ready (Option.none) (fiIn Go.Proofs.Tryz.prog hint 80) [(3, .one (.fix (Go.Gv.TV.ptr 70 0))), (4, .one (.fix (Go.Gv.TV.ptr 71 0)))] (rangeIn Go.Proofs.Tryz.prog 80 4).1 (rangeIn Go.Proofs.Tryz.prog 80 4).2.1 (rangeIn Go.Proofs.Tryz.prog 80 4).2.2)], 77, 78, 2014⟩
noncomputable def L82_3_77 : Nat → (List UInt8) → Bool → Int → Int → Int → Int → (List Int) → (List UInt8) → Bool → Int → (List UInt8) → Int → Bool → Option ((Int × Unit) × ((Unit × Unit) × ((Int × Unit) × (((List Int) × Unit) × (((List UInt8) × Unit) × ((Bool × Unit) × ((Unit × (Unit × (Unit × Unit))) × ((Unit × Unit) × ((Int × Unit) × (((List UInt8) × Unit) × ((Int × Unit) × ((Bool × Unit) × ((Unit × (Unit × Unit)) × Unit)))))))))))))
  | 0, _, _, _, _, _, _, _, _, _, _, _, _, _ => none
  | n + 1, t0, t1, t5, t9, t10, c65_0, c66_0, c67_0, c68_0, c71_0, c72_0, c73_0, c74_0 =>
    bif (Go.Iv.ilt t10 t9) then
      bif (Go.Iv.ile (0 : Int) (Go.IntKind.wrap Go.IntKind.i64 ((Go.IntKind.wrap Go.IntKind.i64 ((len t0) - (1 : Int))) - t10))) then
      Option.bind (t0[(Int.toNat (Go.IntKind.wrap Go.IntKind.i64 ((Go.IntKind.wrap Go.IntKind.i64 ((len t0) - (1 : Int))) - t10)))]?) fun x19 =>
      bif t1 then
        bif (Go.Iv.ile (0 : Int) t10) then
        Option.bind (t0[(Int.toNat t10)]?) fun x20 =>
        L82_3_77 n t0 t1 (orI Go.IntKind.i64 (shlI Go.IntKind.i64 t5 8) (Go.IntKind.wrap Go.IntKind.i64 (ub x20))) t9 (Go.IntKind.wrap Go.IntKind.i64 (t10 + (1 : Int))) c65_0 c66_0 c67_0 c68_0 c71_0 c72_0 c73_0 c74_0
        else none
      else
      L82_3_77 n t0 t1 (orI Go.IntKind.i64 (shlI Go.IntKind.i64 t5 8) (Go.IntKind.wrap Go.IntKind.i64 (ub x19))) t9 (Go.IntKind.wrap Go.IntKind.i64 (t10 + (1 : Int))) c65_0 c66_0 c67_0 c68_0 c71_0 c72_0 c73_0 c74_0
      else none
    else
    some ((t5, ()), (((), ()), ((c65_0, ()), ((c66_0, ()), ((c67_0, ()), ((c68_0, ()), (((), ((), ((), ()))), (((), ()), ((c71_0, ()), ((c72_0, ()), ((c73_0, ()), ((c74_0, ()), (((), ((), ())), ())))))))))))))
noncomputable def L82_3_77_it : LoopIt := ⟨82, 3, none, L82_3_77_T, [(.exit 0, L82_3_77_Xexit0)], 0, fun n x => L82_3_77 n x.1.1 x.1.2.1 x.1.2.2.1 x.1.2.2.2.1 x.1.2.2.2.2.1 x.2.2.1.1 x.2.2.2.1.1 x.2.2.2.2.1.1 x.2.2.2.2.2.1.1 x.2.2.2.2.2.2.2.2.1.1 x.2.2.2.2.2.2.2.2.2.1.1 x.2.2.2.2.2.2.2.2.2.2.1.1 x.2.2.2.2.2.2.2.2.2.2.2.1.1⟩
theorem L82_3_77_Xexit0_ok : L82_3_77_Xexit0.ok Go.Proofs.Tryz.prog hint := by
  intro p hp
  simp only [L82_3_77_Xexit0, List.mem_cons, List.not_mem_nil, or_false] at hp
  rcases hp with rfl | rfl | rfl | rfl | rfl | rfl | rfl | rfl | rfl | rfl | rfl | rfl
  · trivial
  · trivial
  · trivial
  · trivial
  · trivial
  · exact Uniq.of (by kernel_rfl) (by kernel_rfl)
  · trivial
  · trivial
  · trivial
  · trivial
  · trivial
  · exact Uniq.of (by kernel_rfl) (by kernel_rfl)
theorem L82_3_77_T_ok : L82_3_77_T.ok Go.Proofs.Tryz.prog hint := by
  intro p hp
  simp only [L82_3_77_T, List.mem_cons, List.not_mem_nil, or_false] at hp
  rcases hp with rfl | rfl | rfl | rfl | rfl | rfl | rfl | rfl | rfl | rfl | rfl | rfl
  · trivial
  · trivial
  · trivial
  · trivial
  · trivial
  · exact Uniq.of (by kernel_rfl) (by kernel_rfl)
  · trivial
  · trivial
  · trivial
  · trivial
  · trivial
  · exact Uniq.of (by kernel_rfl) (by kernel_rfl)
theorem L82_3_77_ok : ∀ n, LoopOK Go.Proofs.Tryz.prog hint shT L82_3_77_it n :=
  LoopOK.of (hk := fun β => (Known.mk [] []).hk β) (sh := shT) (OneLoop.of (by kernel_rfl)) L82_3_77_T_ok ⟨⟨L82_3_77_Xexit0_ok, Nat.le_refl _, Nat.le_refl _⟩, trivial⟩ (fun m => KnownOK.hook KnownOK.nil m)
    (fun _ => by kernel_rfl) (fun m x => by kernel_rfl)

noncomputable def L81_0_Xexit0 : Tm := ⟨[(0, .one (.fix (Go.Gv.TV.yld 75))), (1, .one (.fix (Go.Gv.TV.ptr 72 0)))], [(64, .cells 26 [.fix (Go.Gv.TV.raw (Go.Value.slice (Option.none) 0 0))] true), (65, .cells 30 [.int .i64] true), (66, .cells 26 [.all 76 3 (.int .i64) true] true), (67, .cells 24 [.lst .byte] true), (68, .cells 4 [.bool] true), (69, .loop 15 Go.LoopState.ready (Option.none) (fiIn Go.Proofs.Tryz.prog hint 15) [(2, .one (.fix (Go.Gv.TV.ptr 64 0))), (3, .one (.fix (Go.Gv.TV.ptr 65 0))), (6, .one (.fix (Go.Gv.TV.ptr 66 0)))] (rangeIn Go.Proofs.Tryz.prog 15 7).1 (rangeIn Go.Proofs.Tryz.prog 15 7).2.1 (rangeIn Go.Proofs.Tryz.prog 15 7).2.2), (70, .cells 23 [.fix (Go.Gv.TV.yld 69)] true), (71, .cells 3 [.int .i64] true), (72, .cells 24 [.lst .byte] true), (73, .cells 3 [.int .i64] true), (74, .cells 4 [.bool] true), (75, .loop 80 Go.LoopState.ready (Option.none) (fiIn Go.Proofs.Tryz.prog hint 80) [(3, .one (.fix (Go.Gv.TV.ptr 70 0))), (4, .one (.fix (Go.Gv.TV.ptr 71 0)))] (rangeIn Go.Proofs.Tryz.prog 80 4).1 (rangeIn Go.Proofs.Tryz.prog 80 4).2.1 (rangeIn Go.Proofs.Tryz.prog 80 4).2.2)], 76, 77, 1013⟩
noncomputable def L81_0_Xret : Tm := ⟨[], [(64, .cells 26 [.fix (Go.Gv.TV.raw (Go.Value.slice (Option.none) 0 0))] true), (65, .cells 30 [.int .i64] true), (66, .cells 26 [.all 76 3 (.int .i64) true] true), (67, .cells 24 [.lst .byte] true), (68, .cells 4 [.bool] true), (69, .loop 15 Go.LoopState.done (Option.some Go.Code.ret) (fiIn Go.Proofs.Tryz.prog hint 15) [(2, .one (.fix (Go.Gv.TV.ptr 64 0))), (3, .one (.fix (Go.Gv.TV.ptr 65 0))), (6, .one (.fix (Go.Gv.TV.ptr 66 0)))] (rangeIn Go.Proofs.Tryz.prog 15 7).1 (rangeIn Go.Proofs.Tryz.prog 15 7).2.1 (rangeIn Go.Proofs.Tryz.prog 15 7).2.2), (70, .cells 23 [.fix (Go.Gv.TV.yld 69)] true), (71, .cells 3 [.int .i64] true), (72, .cells 24 [.lst .byte] true), (73, .cells 3 [.int .i64] true), (74, .cells 4 [.bool] true), (75, .loop 80 Go.LoopState.done (Option.some Go.Code.ret) (fiIn Go.Proofs.Tryz.prog hint 80) [(3, .one (.fix (Go.Gv.TV.ptr 70 0))), (4, .one (.fix (Go.Gv.TV.ptr 71 0)))] (rangeIn Go.Proofs.Tryz.prog 80 4).1 (rangeIn Go.Proofs.Tryz.prog 80 4).2.1 (rangeIn Go.Proofs.Tryz.prog 80 4).2.2)], 76, 77, 1013⟩
noncomputable def L81_0_T : Tm := ⟨[(0, .one (.fix (Go.Gv.TV.yld 75))), (1, .one (.fix (Go.Gv.TV.ptr 72 0))), (2, .one (.fix (Go.Gv.TV.ptr 73 0))), (3, .one (.fix (Go.Gv.TV.ptr 74 0)))], [(64, .cells 26 [.fix (Go.Gv.TV.raw (Go.Value.slice (Option.none) 0 0))] true), (65, .cells 30 [.int .i64] true), (66, .cells 26 [.all 76 3 (.int .i64) true] true), (67, .cells 24 [.lst .byte] true), (68, .cells 4 [.bool] true), (69, .loop 15 Go.LoopState.ready (Option.none) (fiIn Go.Proofs.Tryz.prog hint 15) [(2, .one (.fix (Go.Gv.TV.ptr 64 0))), (3, .one (.fix (Go.Gv.TV.ptr 65 0))), (6, .one (.fix (Go.Gv.TV.ptr 66 0)))] (rangeIn Go.Proofs.Tryz.prog 15 7).1 (rangeIn Go.Proofs.Tryz.prog 15 7).2.1 (rangeIn Go.Proofs.Tryz.prog 15 7).2.2), (70, .cells 23 [.fix (Go.Gv.TV.yld 69)] true), (71, .cells 3 [.int .i64] true), (72, .cells 24 [.lst .byte] true), (73, .cells 3 [.int .i64] true), (74, .cells 4 [.bool] true), (75, .loop 80 Go.LoopState.ready (Option.none) (fiIn Go.Proofs.Tryz.prog hint 80) [(3, .one (.fix (Go.Gv.TV.ptr 70 0))), (4, .one (.fix (Go.Gv.TV.ptr 71 0)))] (rangeIn Go.Proofs.Tryz.prog 80 4).1 (rangeIn Go.Proofs.Tryz.prog 80 4).2.1 (rangeIn Go.Proofs.Tryz.prog 80 4).2.2)], 76, 77, 1013⟩
noncomputable def L81_0 : Nat → Int → (List Int) → (List UInt8) → Bool → Int → (List UInt8) → Int → Bool → Option (((Unit × (Unit × Unit)) × ((Unit × Unit) × ((Int × Unit) × (((List Int) × Unit) × (((List UInt8) × Unit) × ((Bool × Unit) × ((Unit × (Unit × (Unit × Unit))) × ((Unit × Unit) × ((Int × Unit) × (((List UInt8) × Unit) × ((Int × Unit) × ((Bool × Unit) × ((Unit × (Unit × Unit)) × Unit))))))))))))) ⊕ (Unit × ((Unit × Unit) × ((Int × Unit) × (((List Int) × Unit) × (((List UInt8) × Unit) × ((Bool × Unit) × ((Unit × (Unit × (Unit × Unit))) × ((Unit × Unit) × ((Int × Unit) × (((List UInt8) × Unit) × ((Int × Unit) × ((Bool × Unit) × ((Unit × (Unit × Unit)) × Unit))))))))))))))
  | 0, _, _, _, _, _, _, _, _ => none
  | n + 1, c65_0, c66_0, c67_0, c68_0, c71_0, c72_0, c73_0, c74_0 =>
    bif (Go.Iv.ile c73_0 (len c72_0)) then
      bif ((Go.Iv.ile (0 : Int) c73_0) && (Go.Iv.ile c73_0 (len c72_0))) then
      Option.bind (L82_3_77 (n + 3) (List.take ((Int.toNat c73_0) - 0) (List.drop 0 c72_0)) c74_0 (0 : Int) (len (List.take ((Int.toNat c73_0) - 0) (List.drop 0 c72_0))) (0 : Int) c65_0 c66_0 c67_0 c68_0 c71_0 c72_0 c73_0 c74_0) fun y37 =>
      Option.bind (bif (Go.Iv.ilt (0 : Int) y37.2.2.2.2.2.2.2.2.1.1) then
          bif (Go.Iv.ile (56320 : Int) y37.1.1) then
            some (Go.Iv.ilt y37.1.1 (57344 : Int))
          else
          some Bool.false
        else
        some Bool.false) fun b39 =>
      bif b39 then
        Option.bind (is (n + 1) (Go.IntKind.wrap Go.IntKind.i64 ((Go.IntKind.wrap Go.IntKind.i64 ((Go.IntKind.wrap Go.IntKind.i64 ((65536 : Int) + (shlI Go.IntKind.i64 (Go.IntKind.wrap Go.IntKind.i64 (y37.2.2.2.2.2.2.2.2.1.1 - (55296 : Int))) 10))) + y37.1.1)) - (56320 : Int)))) fun y40 =>
        bif (!y40.1) then
          some (.inr ((), (((), ()), (((4 : Int), ()), ((y37.2.2.2.1.1, ()), ((y37.2.2.2.2.1.1, ()), ((y37.2.2.2.2.2.1.1, ()), (((), ((), ((), ()))), (((), ()), (((0 : Int), ()), ((y37.2.2.2.2.2.2.2.2.2.1.1, ()), ((y37.2.2.2.2.2.2.2.2.2.2.1.1, ()), ((y37.2.2.2.2.2.2.2.2.2.2.2.1.1, ()), (((), ((), ())), ()))))))))))))))
        else
        bif (room (((List.length y37.2.2.2.1.1) + (List.length ((Go.IntKind.wrap Go.IntKind.i64 ((Go.IntKind.wrap Go.IntKind.i64 ((Go.IntKind.wrap Go.IntKind.i64 ((65536 : Int) + (shlI Go.IntKind.i64 (Go.IntKind.wrap Go.IntKind.i64 (y37.2.2.2.2.2.2.2.2.1.1 - (55296 : Int))) 10))) + y37.1.1)) - (56320 : Int))) :: ([] : List Int)))) * 9)) then
        bif ((Go.Iv.ile (0 : Int) y37.2.2.2.2.2.2.2.2.2.2.1.1) && (Go.Iv.ile y37.2.2.2.2.2.2.2.2.2.2.1.1 (len y37.2.2.2.2.2.2.2.2.2.1.1))) then
        L81_0 n y37.2.2.1.1 (y37.2.2.2.1.1 ++ ((Go.IntKind.wrap Go.IntKind.i64 ((Go.IntKind.wrap Go.IntKind.i64 ((Go.IntKind.wrap Go.IntKind.i64 ((65536 : Int) + (shlI Go.IntKind.i64 (Go.IntKind.wrap Go.IntKind.i64 (y37.2.2.2.2.2.2.2.2.1.1 - (55296 : Int))) 10))) + y37.1.1)) - (56320 : Int))) :: ([] : List Int))) y37.2.2.2.2.1.1 y37.2.2.2.2.2.1.1 (0 : Int) (List.take ((List.length y37.2.2.2.2.2.2.2.2.2.1.1) - (Int.toNat y37.2.2.2.2.2.2.2.2.2.2.1.1)) (List.drop (Int.toNat y37.2.2.2.2.2.2.2.2.2.2.1.1) y37.2.2.2.2.2.2.2.2.2.1.1)) y37.2.2.2.2.2.2.2.2.2.2.1.1 y37.2.2.2.2.2.2.2.2.2.2.2.1.1
        else none
        else none
      else
      bif (Go.Iv.ilt (0 : Int) y37.2.2.2.2.2.2.2.2.1.1) then
        Option.bind (is (n + 1) (-(1 : Int))) fun y41 =>
        bif (!y41.1) then
          some (.inr ((), (((), ()), (((4 : Int), ()), ((y37.2.2.2.1.1, ()), ((y37.2.2.2.2.1.1, ()), ((y37.2.2.2.2.2.1.1, ()), (((), ((), ((), ()))), (((), ()), ((y37.2.2.2.2.2.2.2.2.1.1, ()), ((y37.2.2.2.2.2.2.2.2.2.1.1, ()), ((y37.2.2.2.2.2.2.2.2.2.2.1.1, ()), ((y37.2.2.2.2.2.2.2.2.2.2.2.1.1, ()), (((), ((), ())), ()))))))))))))))
        else
        bif (room (((List.length y37.2.2.2.1.1) + (List.length ((-(1 : Int)) :: ([] : List Int)))) * 9)) then
        bif ((Go.Iv.ile (0 : Int) y37.2.2.2.2.2.2.2.2.2.2.1.1) && (Go.Iv.ile y37.2.2.2.2.2.2.2.2.2.2.1.1 (len y37.2.2.2.2.2.2.2.2.2.1.1))) then
        L81_0 n y37.2.2.1.1 (y37.2.2.2.1.1 ++ ((-(1 : Int)) :: ([] : List Int))) y37.2.2.2.2.1.1 y37.2.2.2.2.2.1.1 y37.2.2.2.2.2.2.2.2.1.1 (List.take ((List.length y37.2.2.2.2.2.2.2.2.2.1.1) - (Int.toNat y37.2.2.2.2.2.2.2.2.2.2.1.1)) (List.drop (Int.toNat y37.2.2.2.2.2.2.2.2.2.2.1.1) y37.2.2.2.2.2.2.2.2.2.1.1)) y37.2.2.2.2.2.2.2.2.2.2.1.1 y37.2.2.2.2.2.2.2.2.2.2.2.1.1
        else none
        else none
      else
      Option.bind (bif (Go.Iv.ile (55296 : Int) y37.1.1) then
          some (Go.Iv.ilt y37.1.1 (56320 : Int))
        else
        some Bool.false) fun b43 =>
      bif b43 then
        bif ((Go.Iv.ile (0 : Int) y37.2.2.2.2.2.2.2.2.2.2.1.1) && (Go.Iv.ile y37.2.2.2.2.2.2.2.2.2.2.1.1 (len y37.2.2.2.2.2.2.2.2.2.1.1))) then
        L81_0 n y37.2.2.1.1 y37.2.2.2.1.1 y37.2.2.2.2.1.1 y37.2.2.2.2.2.1.1 y37.1.1 (List.take ((List.length y37.2.2.2.2.2.2.2.2.2.1.1) - (Int.toNat y37.2.2.2.2.2.2.2.2.2.2.1.1)) (List.drop (Int.toNat y37.2.2.2.2.2.2.2.2.2.2.1.1) y37.2.2.2.2.2.2.2.2.2.1.1)) y37.2.2.2.2.2.2.2.2.2.2.1.1 y37.2.2.2.2.2.2.2.2.2.2.2.1.1
        else none
      else
      Option.bind (is (n + 1) y37.1.1) fun y44 =>
      bif (!y44.1) then
        some (.inr ((), (((), ()), (((4 : Int), ()), ((y37.2.2.2.1.1, ()), ((y37.2.2.2.2.1.1, ()), ((y37.2.2.2.2.2.1.1, ()), (((), ((), ((), ()))), (((), ()), ((y37.2.2.2.2.2.2.2.2.1.1, ()), ((y37.2.2.2.2.2.2.2.2.2.1.1, ()), ((y37.2.2.2.2.2.2.2.2.2.2.1.1, ()), ((y37.2.2.2.2.2.2.2.2.2.2.2.1.1, ()), (((), ((), ())), ()))))))))))))))
      else
      bif (room (((List.length y37.2.2.2.1.1) + (List.length (y37.1.1 :: ([] : List Int)))) * 9)) then
      bif ((Go.Iv.ile (0 : Int) y37.2.2.2.2.2.2.2.2.2.2.1.1) && (Go.Iv.ile y37.2.2.2.2.2.2.2.2.2.2.1.1 (len y37.2.2.2.2.2.2.2.2.2.1.1))) then
      L81_0 n y37.2.2.1.1 (y37.2.2.2.1.1 ++ (y37.1.1 :: ([] : List Int))) y37.2.2.2.2.1.1 y37.2.2.2.2.2.1.1 y37.2.2.2.2.2.2.2.2.1.1 (List.take ((List.length y37.2.2.2.2.2.2.2.2.2.1.1) - (Int.toNat y37.2.2.2.2.2.2.2.2.2.2.1.1)) (List.drop (Int.toNat y37.2.2.2.2.2.2.2.2.2.2.1.1) y37.2.2.2.2.2.2.2.2.2.1.1)) y37.2.2.2.2.2.2.2.2.2.2.1.1 y37.2.2.2.2.2.2.2.2.2.2.2.1.1
      else none
      else none
      else none
    else
    some (.inl (((), ((), ())), (((), ()), ((c65_0, ()), ((c66_0, ()), ((c67_0, ()), ((c68_0, ()), (((), ((), ((), ()))), (((), ()), ((c71_0, ()), ((c72_0, ()), ((c73_0, ()), ((c74_0, ()), (((), ((), ())), ()))))))))))))))
noncomputable def L81_0_it : LoopIt := ⟨81, 0, none, L81_0_T, [(.exit 0, L81_0_Xexit0), (.ret, L81_0_Xret)], 3, fun n x => L81_0 n x.2.2.1.1 x.2.2.2.1.1 x.2.2.2.2.1.1 x.2.2.2.2.2.1.1 x.2.2.2.2.2.2.2.2.1.1 x.2.2.2.2.2.2.2.2.2.1.1 x.2.2.2.2.2.2.2.2.2.2.1.1 x.2.2.2.2.2.2.2.2.2.2.2.1.1⟩
theorem L81_0_Xexit0_ok : L81_0_Xexit0.ok Go.Proofs.Tryz.prog hint := by
  intro p hp
  simp only [L81_0_Xexit0, List.mem_cons, List.not_mem_nil, or_false] at hp
  rcases hp with rfl | rfl | rfl | rfl | rfl | rfl | rfl | rfl | rfl | rfl | rfl | rfl
  · trivial
  · trivial
  · trivial
  · trivial
  · trivial
  · exact Uniq.of (by kernel_rfl) (by kernel_rfl)
  · trivial
  · trivial
  · trivial
  · trivial
  · trivial
  · exact Uniq.of (by kernel_rfl) (by kernel_rfl)
theorem L81_0_Xret_ok : L81_0_Xret.ok Go.Proofs.Tryz.prog hint := by
  intro p hp
  simp only [L81_0_Xret, List.mem_cons, List.not_mem_nil, or_false] at hp
  rcases hp with rfl | rfl | rfl | rfl | rfl | rfl | rfl | rfl | rfl | rfl | rfl | rfl
  · trivial
  · trivial
  · trivial
  · trivial
  · trivial
  · exact Uniq.of (by kernel_rfl) (by kernel_rfl)
  · trivial
  · trivial
  · trivial
  · trivial
  · trivial
  · exact Uniq.of (by kernel_rfl) (by kernel_rfl)
theorem L81_0_T_ok : L81_0_T.ok Go.Proofs.Tryz.prog hint := by
  intro p hp
  simp only [L81_0_T, List.mem_cons, List.not_mem_nil, or_false] at hp
  rcases hp with rfl | rfl | rfl | rfl | rfl | rfl | rfl | rfl | rfl | rfl | rfl | rfl
  · trivial
  · trivial
  · trivial
  · trivial
  · trivial
  · exact Uniq.of (by kernel_rfl) (by kernel_rfl)
  · trivial
  · trivial
  · trivial
  · trivial
  · trivial
  · exact Uniq.of (by kernel_rfl) (by kernel_rfl)
theorem L81_0_ok : ∀ n, LoopOK Go.Proofs.Tryz.prog hint shT L81_0_it n :=
  LoopOK.of (hk := fun β => (Known.mk [is_it] [L82_3_77_it]).hk β) (sh := shT) (OneLoop.of (by kernel_rfl)) L81_0_T_ok ⟨⟨L81_0_Xexit0_ok, Nat.le_refl _, Nat.le_refl _⟩, ⟨L81_0_Xret_ok, Nat.le_refl _, Nat.le_refl _⟩, trivial⟩ (fun m => KnownOK.hook ((KnownOK.nil.loop L82_3_77_ok L82_3_77_T_ok).fn is_ok) m)
    (fun _ => by kernel_rfl) (fun m x => by kernel_rfl)

noncomputable def L82_3_71_Xexit0 : Tm := ⟨[(5, .one (.int .i64))], [(64, .cells 26 [.fix (Go.Gv.TV.raw (Go.Value.slice (Option.none) 0 0))] true), (65, .cells 30 [.int .i64] true), (66, .cells 26 [.fix (Go.Gv.TV.raw (Go.Value.slice (Option.none) 0 0))] true), (67, .cells 24 [.lst .byte] true), (68, .cells 3 [.int .i64] true), (69, .cells 4 [.bool] true), (70, .loop 15 Go.LoopState.ready (Option.none) (fiIn Go.Proofs.Tryz.prog hint 15) [(2, .one (.fix (Go.Gv.TV.ptr 64 0))), (3, .one (.fix (Go.Gv.TV.ptr 65 0))), (6, .one (.fix (Go.Gv.TV.ptr 66 0)))] (rangeIn Go.Proofs.Tryz.prog 15 7).1 (rangeIn Go.Proofs.Tryz.prog 15 7).2.1 (rangeIn Go.Proofs.Tryz.prog 15 7).2.2)], 71, 71, 2008⟩
noncomputable def L82_3_71_T : Tm := ⟨[(0, .one (.lst .byte)), (1, .one (.bool)), (5, .one (.int .i64)), (9, .one (.int .i64)), (10, .one (.int .i64))], [(64, .cells 26 [.fix (Go.Gv.TV.raw (Go.Value.slice (Option.none) 0 0))] true), (65, .cells 30 [.int .i64] true), (66, .cells 26 [.fix (Go.Gv.TV.raw (Go.Value.slice (Option.none) 0 0))] true), (67, .cells 24 [.lst .byte] true), (68, .cells 3 [.int .i64] true), (69, .cells 4 [.bool] true), (70, .loop 15 Go.LoopState.ready (Option.none) (fiIn Go.Proofs.Tryz.prog hint 15) [(2, .one (.fix (Go.Gv.TV.ptr 64 0))), (3, .one (.fix (Go.Gv.TV.ptr 65 0))), (6, .one (.fix (Go.Gv.TV.ptr 66 0)))] (rangeIn Go.Proofs.Tryz.prog 15 7).1 (rangeIn Go.Proofs.Tryz.prog 15 7).2.1 (rangeIn Go.Proofs.Tryz.prog 15 7).2.2)], 71, 71, 2008⟩
noncomputable def L82_3_71 : Nat → (List UInt8) → Bool → Int → Int → Int → Int → (List UInt8) → Int → Bool → Option ((Int × Unit) × ((Unit × Unit) × ((Int × Unit) × ((Unit × Unit) × (((List UInt8) × Unit) × ((Int × Unit) × ((Bool × Unit) × ((Unit × (Unit × (Unit × Unit))) × Unit))))))))
  | 0, _, _, _, _, _, _, _, _, _ => none
  | n + 1, t0, t1, t5, t9, t10, c65_0, c67_0, c68_0, c69_0 =>
    bif (Go.Iv.ilt t10 t9) then
      bif (Go.Iv.ile (0 : Int) (Go.IntKind.wrap Go.IntKind.i64 ((Go.IntKind.wrap Go.IntKind.i64 ((len t0) - (1 : Int))) - t10))) then
      Option.bind (t0[(Int.toNat (Go.IntKind.wrap Go.IntKind.i64 ((Go.IntKind.wrap Go.IntKind.i64 ((len t0) - (1 : Int))) - t10)))]?) fun x73 =>
      bif t1 then
        bif (Go.Iv.ile (0 : Int) t10) then
        Option.bind (t0[(Int.toNat t10)]?) fun x74 =>
        L82_3_71 n t0 t1 (orI Go.IntKind.i64 (shlI Go.IntKind.i64 t5 8) (Go.IntKind.wrap Go.IntKind.i64 (ub x74))) t9 (Go.IntKind.wrap Go.IntKind.i64 (t10 + (1 : Int))) c65_0 c67_0 c68_0 c69_0
        else none
      else
      L82_3_71 n t0 t1 (orI Go.IntKind.i64 (shlI Go.IntKind.i64 t5 8) (Go.IntKind.wrap Go.IntKind.i64 (ub x73))) t9 (Go.IntKind.wrap Go.IntKind.i64 (t10 + (1 : Int))) c65_0 c67_0 c68_0 c69_0
      else none
    else
    some ((t5, ()), (((), ()), ((c65_0, ()), (((), ()), ((c67_0, ()), ((c68_0, ()), ((c69_0, ()), (((), ((), ((), ()))), ()))))))))
noncomputable def L82_3_71_it : LoopIt := ⟨82, 3, none, L82_3_71_T, [(.exit 0, L82_3_71_Xexit0)], 0, fun n x => L82_3_71 n x.1.1 x.1.2.1 x.1.2.2.1 x.1.2.2.2.1 x.1.2.2.2.2.1 x.2.2.1.1 x.2.2.2.2.1.1 x.2.2.2.2.2.1.1 x.2.2.2.2.2.2.1.1⟩
theorem L82_3_71_Xexit0_ok : L82_3_71_Xexit0.ok Go.Proofs.Tryz.prog hint := by
  intro p hp
  simp only [L82_3_71_Xexit0, List.mem_cons, List.not_mem_nil, or_false] at hp
  rcases hp with rfl | rfl | rfl | rfl | rfl | rfl | rfl
  · trivial
  · trivial
  · trivial
  · trivial
  · trivial
  · trivial
  · exact Uniq.of (by kernel_rfl) (by kernel_rfl)
theorem L82_3_71_T_ok : L82_3_71_T.ok Go.Proofs.Tryz.prog hint := by
  intro p hp
  simp only [L82_3_71_T, List.mem_cons, List.not_mem_nil, or_false] at hp
  rcases hp with rfl | rfl | rfl | rfl | rfl | rfl | rfl
  · trivial
  · trivial
  · trivial
  · trivial
  · trivial
  · trivial
  · exact Uniq.of (by kernel_rfl) (by kernel_rfl)
theorem L82_3_71_ok : ∀ n, LoopOK Go.Proofs.Tryz.prog hint shT L82_3_71_it n :=
  LoopOK.of (hk := fun β => (Known.mk [] []).hk β) (sh := shT) (OneLoop.of (by kernel_rfl)) L82_3_71_T_ok ⟨⟨L82_3_71_Xexit0_ok, Nat.le_refl _, Nat.le_refl _⟩, trivial⟩ (fun m => KnownOK.hook KnownOK.nil m)
    (fun _ => by kernel_rfl) (fun m x => by kernel_rfl)

noncomputable def L82_3_72_Xexit0 : Tm := ⟨[(5, .one (.int .i64))], [(64, .cells 26 [.fix (Go.Gv.TV.raw (Go.Value.slice (Option.none) 0 0))] true), (65, .cells 30 [.int .i64] true), (66, .cells 26 [.all 72 3 (.int .i64) true] true), (67, .cells 24 [.lst .byte] true), (68, .cells 3 [.int .i64] true), (69, .cells 4 [.bool] true), (70, .loop 15 Go.LoopState.ready (Option.none) (fiIn Go.Proofs.Tryz.prog hint 15) [(2, .one (.fix (Go.Gv.TV.ptr 64 0))), (3, .one (.fix (Go.Gv.TV.ptr 65 0))), (6, .one (.fix (Go.Gv.TV.ptr 66 0)))] (rangeIn Go.Proofs.Tryz.prog 15 7).1 (rangeIn Go.Proofs.Tryz.prog 15 7).2.1 (rangeIn Go.Proofs.Tryz.prog 15 7).2.2)], 72, 73, 2008⟩
noncomputable def L82_3_72_T : Tm := ⟨[(0, .one (.lst .byte)), (1, .one (.bool)), (5, .one (.int .i64)), (9, .one (.int .i64)), (10, .one (.int .i64))], [(64, .cells 26 [.fix (Go.Gv.TV.raw (Go.Value.slice (Option.none) 0 0))] true), (65, .cells 30 [.int .i64] true), (66, .cells 26 [.all 72 3 (.int .i64) true] true), (67, .cells 24 [.lst .byte] true), (68, .cells 3 [.int .i64] true), (69, .cells 4 [.bool] true), (70, .loop 15 Go.LoopState.ready (Option.none) (fiIn Go.Proofs.Tryz.prog hint 15) [(2, .one (.fix (Go.Gv.TV.ptr 64 0))), (3, .one (.fix (Go.Gv.TV.ptr 65 0))), (6, .one (.fix (Go.Gv.TV.ptr 66 0)))] (rangeIn Go.Proofs.Tryz.prog 15 7).1 (rangeIn Go.Proofs.Tryz.prog 15 7).2.1 (rangeIn Go.Proofs.Tryz.prog 15 7).2.2)], 72, 73, 2008⟩
noncomputable def L82_3_72 : Nat → (List UInt8) → Bool → Int → Int → Int → Int → (List Int) → (List UInt8) → Int → Bool → Option ((Int × Unit) × ((Unit × Unit) × ((Int × Unit) × (((List Int) × Unit) × (((List UInt8) × Unit) × ((Int × Unit) × ((Bool × Unit) × ((Unit × (Unit × (Unit × Unit))) × Unit))))))))
  | 0, _, _, _, _, _, _, _, _, _, _ => none
  | n + 1, t0, t1, t5, t9, t10, c65_0, c66_0, c67_0, c68_0, c69_0 =>
    bif (Go.Iv.ilt t10 t9) then
      bif (Go.Iv.ile (0 : Int) (Go.IntKind.wrap Go.IntKind.i64 ((Go.IntKind.wrap Go.IntKind.i64 ((len t0) - (1 : Int))) - t10))) then
      Option.bind (t0[(Int.toNat (Go.IntKind.wrap Go.IntKind.i64 ((Go.IntKind.wrap Go.IntKind.i64 ((len t0) - (1 : Int))) - t10)))]?) fun x81 =>
      bif t1 then
        bif (Go.Iv.ile (0 : Int) t10) then
        Option.bind (t0[(Int.toNat t10)]?) fun x82 =>
        L82_3_72 n t0 t1 (orI Go.IntKind.i64 (shlI Go.IntKind.i64 t5 8) (Go.IntKind.wrap Go.IntKind.i64 (ub x82))) t9 (Go.IntKind.wrap Go.IntKind.i64 (t10 + (1 : Int))) c65_0 c66_0 c67_0 c68_0 c69_0
        else none
      else
      L82_3_72 n t0 t1 (orI Go.IntKind.i64 (shlI Go.IntKind.i64 t5 8) (Go.IntKind.wrap Go.IntKind.i64 (ub x81))) t9 (Go.IntKind.wrap Go.IntKind.i64 (t10 + (1 : Int))) c65_0 c66_0 c67_0 c68_0 c69_0
      else none
    else
    some ((t5, ()), (((), ()), ((c65_0, ()), ((c66_0, ()), ((c67_0, ()), ((c68_0, ()), ((c69_0, ()), (((), ((), ((), ()))), ()))))))))
noncomputable def L82_3_72_it : LoopIt := ⟨82, 3, none, L82_3_72_T, [(.exit 0, L82_3_72_Xexit0)], 0, fun n x => L82_3_72 n x.1.1 x.1.2.1 x.1.2.2.1 x.1.2.2.2.1 x.1.2.2.2.2.1 x.2.2.1.1 x.2.2.2.1.1 x.2.2.2.2.1.1 x.2.2.2.2.2.1.1 x.2.2.2.2.2.2.1.1⟩
theorem L82_3_72_Xexit0_ok : L82_3_72_Xexit0.ok Go.Proofs.Tryz.prog hint := by
  intro p hp
  simp only [L82_3_72_Xexit0, List.mem_cons, List.not_mem_nil, or_false] at hp
  rcases hp with rfl | rfl | rfl | rfl | rfl | rfl | rfl
  · trivial
  · trivial
  · trivial
  · trivial
  · trivial
  · trivial
  · exact Uniq.of (by kernel_rfl) (by kernel_rfl)
theorem L82_3_72_T_ok : L82_3_72_T.ok Go.Proofs.Tryz.prog hint := by
  intro p hp
  simp only [L82_3_72_T, List.mem_cons, List.not_mem_nil, or_false] at hp
  rcases hp with rfl | rfl | rfl | rfl | rfl | rfl | rfl
  · trivial
  · trivial
  · trivial
  · trivial
  · trivial
  · trivial
  · exact Uniq.of (by kernel_rfl) (by kernel_rfl)
theorem L82_3_72_ok : ∀ n, LoopOK Go.Proofs.Tryz.prog hint shT L82_3_72_it n :=
  LoopOK.of (hk := fun β => (Known.mk [] []).hk β) (sh := shT) (OneLoop.of (by kernel_rfl)) L82_3_72_T_ok ⟨⟨L82_3_72_Xexit0_ok, Nat.le_refl _, Nat.le_refl _⟩, trivial⟩ (fun m => KnownOK.hook KnownOK.nil m)
    (fun _ => by kernel_rfl) (fun m x => by kernel_rfl)

noncomputable def L81_0_71_Xexit0 : Tm := ⟨[(0, .one (.fix (Go.Gv.TV.yld 70))), (1, .one (.fix (Go.Gv.TV.ptr 67 0)))], [(64, .cells 26 [.fix (Go.Gv.TV.raw (Go.Value.slice (Option.none) 0 0))] true), (65, .cells 30 [.int .i64] true), (66, .cells 26 [.all 71 3 (.int .i64) true] true), (67, .cells 24 [.lst .byte] true), (68, .cells 3 [.int .i64] true), (69, .cells 4 [.bool] true), (70, .loop 15 Go.LoopState.ready (Option.none) (fiIn Go.Proofs.Tryz.prog hint 15) [(2, .one (.fix (Go.Gv.TV.ptr 64 0))), (3, .one (.fix (Go.Gv.TV.ptr 65 0))), (6, .one (.fix (Go.Gv.TV.ptr 66 0)))] (rangeIn Go.Proofs.Tryz.prog 15 7).1 (rangeIn Go.Proofs.Tryz.prog 15 7).2.1 (rangeIn Go.Proofs.Tryz.prog 15 7).2.2)], 71, 72, 1007⟩
noncomputable def L81_0_71_Xret : Tm := ⟨[], [(64, .cells 26 [.fix (Go.Gv.TV.raw (Go.Value.slice (Option.none) 0 0))] true), (65, .cells 30 [.int .i64] true), (66, .cells 26 [.all 71 3 (.int .i64) true] true), (67, .cells 24 [.lst .byte] true), (68, .cells 3 [.int .i64] true), (69, .cells 4 [.bool] true), (70, .loop 15 Go.LoopState.done (Option.some Go.Code.ret) (fiIn Go.Proofs.Tryz.prog hint 15) [(2, .one (.fix (Go.Gv.TV.ptr 64 0))), (3, .one (.fix (Go.Gv.TV.ptr 65 0))), (6, .one (.fix (Go.Gv.TV.ptr 66 0)))] (rangeIn Go.Proofs.Tryz.prog 15 7).1 (rangeIn Go.Proofs.Tryz.prog 15 7).2.1 (rangeIn Go.Proofs.Tryz.prog 15 7).2.2)], 71, 72, 1007⟩
noncomputable def L81_0_71_T : Tm := ⟨[(0, .one (.fix (Go.Gv.TV.yld 70))), (1, .one (.fix (Go.Gv.TV.ptr 67 0))), (2, .one (.fix (Go.Gv.TV.ptr 68 0))), (3, .one (.fix (Go.Gv.TV.ptr 69 0)))], [(64, .cells 26 [.fix (Go.Gv.TV.raw (Go.Value.slice (Option.none) 0 0))] true), (65, .cells 30 [.int .i64] true), (66, .cells 26 [.all 71 3 (.int .i64) true] true), (67, .cells 24 [.lst .byte] true), (68, .cells 3 [.int .i64] true), (69, .cells 4 [.bool] true), (70, .loop 15 Go.LoopState.ready (Option.none) (fiIn Go.Proofs.Tryz.prog hint 15) [(2, .one (.fix (Go.Gv.TV.ptr 64 0))), (3, .one (.fix (Go.Gv.TV.ptr 65 0))), (6, .one (.fix (Go.Gv.TV.ptr 66 0)))] (rangeIn Go.Proofs.Tryz.prog 15 7).1 (rangeIn Go.Proofs.Tryz.prog 15 7).2.1 (rangeIn Go.Proofs.Tryz.prog 15 7).2.2)], 71, 72, 1007⟩
noncomputable def L81_0_71 : Nat → Int → (List Int) → (List UInt8) → Int → Bool → Option (((Unit × (Unit × Unit)) × ((Unit × Unit) × ((Int × Unit) × (((List Int) × Unit) × (((List UInt8) × Unit) × ((Int × Unit) × ((Bool × Unit) × ((Unit × (Unit × (Unit × Unit))) × Unit)))))))) ⊕ (Unit × ((Unit × Unit) × ((Int × Unit) × (((List Int) × Unit) × (((List UInt8) × Unit) × ((Int × Unit) × ((Bool × Unit) × ((Unit × (Unit × (Unit × Unit))) × Unit)))))))))
  | 0, _, _, _, _, _ => none
  | n + 1, c65_0, c66_0, c67_0, c68_0, c69_0 =>
    bif (Go.Iv.ile c68_0 (len c67_0)) then
      bif ((Go.Iv.ile (0 : Int) c68_0) && (Go.Iv.ile c68_0 (len c67_0))) then
      Option.bind (L82_3_72 (n + 2) (List.take ((Int.toNat c68_0) - 0) (List.drop 0 c67_0)) c69_0 (0 : Int) (len (List.take ((Int.toNat c68_0) - 0) (List.drop 0 c67_0))) (0 : Int) c65_0 c66_0 c67_0 c68_0 c69_0) fun y87 =>
      Option.bind (is (n + 1) y87.1.1) fun y88 =>
      bif (!y88.1) then
        some (.inr ((), (((), ()), (((4 : Int), ()), ((y87.2.2.2.1.1, ()), ((y87.2.2.2.2.1.1, ()), ((y87.2.2.2.2.2.1.1, ()), ((y87.2.2.2.2.2.2.1.1, ()), (((), ((), ((), ()))), ())))))))))
      else
      bif (room (((List.length y87.2.2.2.1.1) + (List.length (y87.1.1 :: ([] : List Int)))) * 9)) then
      bif ((Go.Iv.ile (0 : Int) y87.2.2.2.2.2.1.1) && (Go.Iv.ile y87.2.2.2.2.2.1.1 (len y87.2.2.2.2.1.1))) then
      L81_0_71 n y87.2.2.1.1 (y87.2.2.2.1.1 ++ (y87.1.1 :: ([] : List Int))) (List.take ((List.length y87.2.2.2.2.1.1) - (Int.toNat y87.2.2.2.2.2.1.1)) (List.drop (Int.toNat y87.2.2.2.2.2.1.1) y87.2.2.2.2.1.1)) y87.2.2.2.2.2.1.1 y87.2.2.2.2.2.2.1.1
      else none
      else none
      else none
    else
    some (.inl (((), ((), ())), (((), ()), ((c65_0, ()), ((c66_0, ()), ((c67_0, ()), ((c68_0, ()), ((c69_0, ()), (((), ((), ((), ()))), ())))))))))
noncomputable def L81_0_71_it : LoopIt := ⟨81, 0, none, L81_0_71_T, [(.exit 0, L81_0_71_Xexit0), (.ret, L81_0_71_Xret)], 2, fun n x => L81_0_71 n x.2.2.1.1 x.2.2.2.1.1 x.2.2.2.2.1.1 x.2.2.2.2.2.1.1 x.2.2.2.2.2.2.1.1⟩
theorem L81_0_71_Xexit0_ok : L81_0_71_Xexit0.ok Go.Proofs.Tryz.prog hint := by
  intro p hp
  simp only [L81_0_71_Xexit0, List.mem_cons, List.not_mem_nil, or_false] at hp
  rcases hp with rfl | rfl | rfl | rfl | rfl | rfl | rfl
  · trivial
  · trivial
  · trivial
  · trivial
  · trivial
  · trivial
  · exact Uniq.of (by kernel_rfl) (by kernel_rfl)
theorem L81_0_71_Xret_ok : L81_0_71_Xret.ok Go.Proofs.Tryz.prog hint := by
  intro p hp
  simp only [L81_0_71_Xret, List.mem_cons, List.not_mem_nil, or_false] at hp
  rcases hp with rfl | rfl | rfl | rfl | rfl | rfl | rfl
  · trivial
  · trivial
  · trivial
  · trivial
  · trivial
  · trivial
  · exact Uniq.of (by kernel_rfl) (by kernel_rfl)
theorem L81_0_71_T_ok : L81_0_71_T.ok Go.Proofs.Tryz.prog hint := by
  intro p hp
  simp only [L81_0_71_T, List.mem_cons, List.not_mem_nil, or_false] at hp
  rcases hp with rfl | rfl | rfl | rfl | rfl | rfl | rfl
  · trivial
  · trivial
  · trivial
  · trivial
  · trivial
  · trivial
  · exact Uniq.of (by kernel_rfl) (by kernel_rfl)
theorem L81_0_71_ok : ∀ n, LoopOK Go.Proofs.Tryz.prog hint shT L81_0_71_it n :=
  LoopOK.of (hk := fun β => (Known.mk [is_it] [L82_3_72_it]).hk β) (sh := shT) (OneLoop.of (by kernel_rfl)) L81_0_71_T_ok ⟨⟨L81_0_71_Xexit0_ok, Nat.le_refl _, Nat.le_refl _⟩, ⟨L81_0_71_Xret_ok, Nat.le_refl _, Nat.le_refl _⟩, trivial⟩ (fun m => KnownOK.hook ((KnownOK.nil.loop L82_3_72_ok L82_3_72_T_ok).fn is_ok) m)
    (fun _ => by kernel_rfl) (fun m x => by kernel_rfl)

noncomputable def L83_0_Xexit0 : Tm := ⟨[], [(64, .cells 26 [.fix (Go.Gv.TV.raw (Go.Value.slice (Option.none) 0 0))] true), (65, .cells 30 [.int .i64] true), (66, .cells 26 [.all 69 3 (.int .i64) true] true), (67, .cells 24 [.lst .byte] true), (68, .loop 15 Go.LoopState.ready (Option.none) (fiIn Go.Proofs.Tryz.prog hint 15) [(2, .one (.fix (Go.Gv.TV.ptr 64 0))), (3, .one (.fix (Go.Gv.TV.ptr 65 0))), (6, .one (.fix (Go.Gv.TV.ptr 66 0)))] (rangeIn Go.Proofs.Tryz.prog 15 7).1 (rangeIn Go.Proofs.Tryz.prog 15 7).2.1 (rangeIn Go.Proofs.Tryz.prog 15 7).2.2)], 69, 70, 1005⟩
noncomputable def L83_0_Xret : Tm := ⟨[], [(64, .cells 26 [.fix (Go.Gv.TV.raw (Go.Value.slice (Option.none) 0 0))] true), (65, .cells 30 [.int .i64] true), (66, .cells 26 [.all 69 3 (.int .i64) true] true), (67, .cells 24 [.lst .byte] true), (68, .loop 15 Go.LoopState.done (Option.some Go.Code.ret) (fiIn Go.Proofs.Tryz.prog hint 15) [(2, .one (.fix (Go.Gv.TV.ptr 64 0))), (3, .one (.fix (Go.Gv.TV.ptr 65 0))), (6, .one (.fix (Go.Gv.TV.ptr 66 0)))] (rangeIn Go.Proofs.Tryz.prog 15 7).1 (rangeIn Go.Proofs.Tryz.prog 15 7).2.1 (rangeIn Go.Proofs.Tryz.prog 15 7).2.2)], 69, 70, 1005⟩
noncomputable def L83_0_T : Tm := ⟨[(0, .one (.fix (Go.Gv.TV.yld 68))), (1, .one (.fix (Go.Gv.TV.ptr 67 0)))], [(64, .cells 26 [.fix (Go.Gv.TV.raw (Go.Value.slice (Option.none) 0 0))] true), (65, .cells 30 [.int .i64] true), (66, .cells 26 [.all 69 3 (.int .i64) true] true), (67, .cells 24 [.lst .byte] true), (68, .loop 15 Go.LoopState.ready (Option.none) (fiIn Go.Proofs.Tryz.prog hint 15) [(2, .one (.fix (Go.Gv.TV.ptr 64 0))), (3, .one (.fix (Go.Gv.TV.ptr 65 0))), (6, .one (.fix (Go.Gv.TV.ptr 66 0)))] (rangeIn Go.Proofs.Tryz.prog 15 7).1 (rangeIn Go.Proofs.Tryz.prog 15 7).2.1 (rangeIn Go.Proofs.Tryz.prog 15 7).2.2)], 69, 70, 1005⟩
noncomputable def L83_0 : Nat → Int → (List Int) → (List UInt8) → Option ((Unit × ((Unit × Unit) × ((Int × Unit) × (((List Int) × Unit) × (((List UInt8) × Unit) × ((Unit × (Unit × (Unit × Unit))) × Unit)))))) ⊕ (Unit × ((Unit × Unit) × ((Int × Unit) × (((List Int) × Unit) × (((List UInt8) × Unit) × ((Unit × (Unit × (Unit × Unit))) × Unit)))))))
  | 0, _, _, _ => none
  | n + 1, c65_0, c66_0, c67_0 =>
    bif (Go.Iv.ilt (0 : Int) (len c67_0)) then
      Option.bind (dr (n + 1) c67_0) fun y112 =>
      Option.bind (bif (y112.1 == (65533 : Int)) then
          some (y112.2.1 == (1 : Int))
        else
        some Bool.false) fun b114 =>
      bif b114 then
        Option.bind (is (n + 1) (-(1 : Int))) fun y115 =>
        bif (!y115.1) then
          some (.inr ((), (((), ()), (((4 : Int), ()), ((c66_0, ()), ((c67_0, ()), (((), ((), ((), ()))), ())))))))
        else
        bif (room (((List.length c66_0) + (List.length ((-(1 : Int)) :: ([] : List Int)))) * 9)) then
        bif ((Go.Iv.ile (0 : Int) y112.2.1) && (Go.Iv.ile y112.2.1 (len c67_0))) then
        L83_0 n c65_0 (c66_0 ++ ((-(1 : Int)) :: ([] : List Int))) (List.take ((List.length c67_0) - (Int.toNat y112.2.1)) (List.drop (Int.toNat y112.2.1) c67_0))
        else none
        else none
      else
      Option.bind (is (n + 1) (Go.IntKind.wrap Go.IntKind.i64 y112.1)) fun y116 =>
      bif (!y116.1) then
        some (.inr ((), (((), ()), (((4 : Int), ()), ((c66_0, ()), ((c67_0, ()), (((), ((), ((), ()))), ())))))))
      else
      bif (room (((List.length c66_0) + (List.length ((Go.IntKind.wrap Go.IntKind.i64 y112.1) :: ([] : List Int)))) * 9)) then
      bif ((Go.Iv.ile (0 : Int) y112.2.1) && (Go.Iv.ile y112.2.1 (len c67_0))) then
      L83_0 n c65_0 (c66_0 ++ ((Go.IntKind.wrap Go.IntKind.i64 y112.1) :: ([] : List Int))) (List.take ((List.length c67_0) - (Int.toNat y112.2.1)) (List.drop (Int.toNat y112.2.1) c67_0))
      else none
      else none
    else
    some (.inl ((), (((), ()), ((c65_0, ()), ((c66_0, ()), ((c67_0, ()), (((), ((), ((), ()))), ())))))))
noncomputable def L83_0_it : LoopIt := ⟨83, 0, none, L83_0_T, [(.exit 0, L83_0_Xexit0), (.ret, L83_0_Xret)], 2, fun n x => L83_0 n x.2.2.1.1 x.2.2.2.1.1 x.2.2.2.2.1.1⟩
theorem L83_0_Xexit0_ok : L83_0_Xexit0.ok Go.Proofs.Tryz.prog hint := by
  intro p hp
  simp only [L83_0_Xexit0, List.mem_cons, List.not_mem_nil, or_false] at hp
  rcases hp with rfl | rfl | rfl | rfl | rfl
  · trivial
  · trivial
  · trivial
  · trivial
  · exact Uniq.of (by kernel_rfl) (by kernel_rfl)
theorem L83_0_Xret_ok : L83_0_Xret.ok Go.Proofs.Tryz.prog hint := by
  intro p hp
  simp only [L83_0_Xret, List.mem_cons, List.not_mem_nil, or_false] at hp
  rcases hp with rfl | rfl | rfl | rfl | rfl
  · trivial
  · trivial
  · trivial
  · trivial
  · exact Uniq.of (by kernel_rfl) (by kernel_rfl)
theorem L83_0_T_ok : L83_0_T.ok Go.Proofs.Tryz.prog hint := by
  intro p hp
  simp only [L83_0_T, List.mem_cons, List.not_mem_nil, or_false] at hp
  rcases hp with rfl | rfl | rfl | rfl | rfl
  · trivial
  · trivial
  · trivial
  · trivial
  · exact Uniq.of (by kernel_rfl) (by kernel_rfl)
theorem L83_0_ok : ∀ n, LoopOK Go.Proofs.Tryz.prog hint shT L83_0_it n :=
  LoopOK.of (hk := fun β => (Known.mk [is_it, dr_it] []).hk β) (sh := shT) (OneLoop.of (by kernel_rfl)) L83_0_T_ok ⟨⟨L83_0_Xexit0_ok, Nat.le_refl _, Nat.le_refl _⟩, ⟨L83_0_Xret_ok, Nat.le_refl _, Nat.le_refl _⟩, trivial⟩ (fun m => KnownOK.hook ((KnownOK.nil.fn dr_ok).fn is_ok) m)
    (fun _ => by kernel_rfl) (fun m x => by kernel_rfl)

noncomputable def points (n : Nat) (b : List UInt8) : Option ((List Int) × (Int × Unit)) :=
  bif (Go.Iv.ilt (1048576 : Int) (len b)) then
    some (([] : List Int), (3 : Int), ())
  else
  Option.bind (form (n + 2) b) fun y0 =>
  bif ((Go.Iv.ile (0 : Int) y0.2.1) && (Go.Iv.ile y0.2.1 (len b))) then
  bif (y0.1 == (2 : Int)) then
    Option.bind (L81_0 n (0 : Int) ([] : List Int) (List.take ((List.length b) - (Int.toNat y0.2.1)) (List.drop (Int.toNat y0.2.1) b)) (y0.1 == (2 : Int)) (0 : Int) (List.take ((List.length b) - (Int.toNat y0.2.1)) (List.drop (Int.toNat y0.2.1) b)) (2 : Int) (y0.1 == (2 : Int))) fun y45 =>
    match y45 with
      | .inl y46 =>
        bif (Go.Iv.ilt (0 : Int) (len y46.2.2.2.2.2.2.2.2.2.1.1)) then
          Option.bind (bif (Go.Iv.ilt (0 : Int) y46.2.2.2.2.2.2.2.2.1.1) then
              some Bool.false
            else
            some Bool.false) fun b49 =>
          bif b49 then
            Option.bind (is n (Go.IntKind.wrap Go.IntKind.i64 ((Go.IntKind.wrap Go.IntKind.i64 ((Go.IntKind.wrap Go.IntKind.i64 ((65536 : Int) + (shlI Go.IntKind.i64 (Go.IntKind.wrap Go.IntKind.i64 (y46.2.2.2.2.2.2.2.2.1.1 - (55296 : Int))) 10))) + (-(1 : Int)))) - (56320 : Int)))) fun y50 =>
            bif (!y50.1) then
              some (([] : List Int), (4 : Int), ())
            else
            bif (room (((List.length y46.2.2.2.1.1) + (List.length ((Go.IntKind.wrap Go.IntKind.i64 ((Go.IntKind.wrap Go.IntKind.i64 ((Go.IntKind.wrap Go.IntKind.i64 ((65536 : Int) + (shlI Go.IntKind.i64 (Go.IntKind.wrap Go.IntKind.i64 (y46.2.2.2.2.2.2.2.2.1.1 - (55296 : Int))) 10))) + (-(1 : Int)))) - (56320 : Int))) :: ([] : List Int)))) * 9)) then
            some ((y46.2.2.2.1.1 ++ ((Go.IntKind.wrap Go.IntKind.i64 ((Go.IntKind.wrap Go.IntKind.i64 ((Go.IntKind.wrap Go.IntKind.i64 ((65536 : Int) + (shlI Go.IntKind.i64 (Go.IntKind.wrap Go.IntKind.i64 (y46.2.2.2.2.2.2.2.2.1.1 - (55296 : Int))) 10))) + (-(1 : Int)))) - (56320 : Int))) :: ([] : List Int))), (0 : Int), ())
            else none
          else
          bif (Go.Iv.ilt (0 : Int) y46.2.2.2.2.2.2.2.2.1.1) then
            Option.bind (is n (-(1 : Int))) fun y51 =>
            bif (!y51.1) then
              some (([] : List Int), (4 : Int), ())
            else
            bif (room (((List.length y46.2.2.2.1.1) + (List.length ((-(1 : Int)) :: ([] : List Int)))) * 9)) then
            bif (Go.Iv.ilt (0 : Int) y46.2.2.2.2.2.2.2.2.1.1) then
              Option.bind (is (n + 2) (-(1 : Int))) fun y52 =>
              bif (!y52.1) then
                some (([] : List Int), (4 : Int), ())
              else
              bif (room (((List.length (y46.2.2.2.1.1 ++ ((-(1 : Int)) :: ([] : List Int)))) + (List.length ((-(1 : Int)) :: ([] : List Int)))) * 9)) then
              some (((y46.2.2.2.1.1 ++ ((-(1 : Int)) :: ([] : List Int))) ++ ((-(1 : Int)) :: ([] : List Int))), (0 : Int), ())
              else none
            else
            some ((y46.2.2.2.1.1 ++ ((-(1 : Int)) :: ([] : List Int))), (0 : Int), ())
            else none
          else
          Option.bind (is n (-(1 : Int))) fun y54 =>
          bif (!y54.1) then
            some (([] : List Int), (4 : Int), ())
          else
          bif (room (((List.length y46.2.2.2.1.1) + (List.length ((-(1 : Int)) :: ([] : List Int)))) * 9)) then
          bif (Go.Iv.ilt (0 : Int) y46.2.2.2.2.2.2.2.2.1.1) then
            Option.bind (is (n + 2) (-(1 : Int))) fun y55 =>
            bif (!y55.1) then
              some (([] : List Int), (4 : Int), ())
            else
            bif (room (((List.length (y46.2.2.2.1.1 ++ ((-(1 : Int)) :: ([] : List Int)))) + (List.length ((-(1 : Int)) :: ([] : List Int)))) * 9)) then
            some (((y46.2.2.2.1.1 ++ ((-(1 : Int)) :: ([] : List Int))) ++ ((-(1 : Int)) :: ([] : List Int))), (0 : Int), ())
            else none
          else
          some ((y46.2.2.2.1.1 ++ ((-(1 : Int)) :: ([] : List Int))), (0 : Int), ())
          else none
        else
        bif (Go.Iv.ilt (0 : Int) y46.2.2.2.2.2.2.2.2.1.1) then
          Option.bind (is (n + 2) (-(1 : Int))) fun y56 =>
          bif (!y56.1) then
            some (([] : List Int), (4 : Int), ())
          else
          bif (room (((List.length y46.2.2.2.1.1) + (List.length ((-(1 : Int)) :: ([] : List Int)))) * 9)) then
          some ((y46.2.2.2.1.1 ++ ((-(1 : Int)) :: ([] : List Int))), (0 : Int), ())
          else none
        else
        some (y46.2.2.2.1.1, (0 : Int), ())
      | .inr y47 =>
        some (([] : List Int), y47.2.2.1.1, ())
  else
  bif (y0.1 == (3 : Int)) then
    Option.bind (L81_0 n (0 : Int) ([] : List Int) (List.take ((List.length b) - (Int.toNat y0.2.1)) (List.drop (Int.toNat y0.2.1) b)) (y0.1 == (2 : Int)) (0 : Int) (List.take ((List.length b) - (Int.toNat y0.2.1)) (List.drop (Int.toNat y0.2.1) b)) (2 : Int) (y0.1 == (2 : Int))) fun y57 =>
    match y57 with
      | .inl y58 =>
        bif (Go.Iv.ilt (0 : Int) (len y58.2.2.2.2.2.2.2.2.2.1.1)) then
          Option.bind (bif (Go.Iv.ilt (0 : Int) y58.2.2.2.2.2.2.2.2.1.1) then
              some Bool.false
            else
            some Bool.false) fun b61 =>
          bif b61 then
            Option.bind (is n (Go.IntKind.wrap Go.IntKind.i64 ((Go.IntKind.wrap Go.IntKind.i64 ((Go.IntKind.wrap Go.IntKind.i64 ((65536 : Int) + (shlI Go.IntKind.i64 (Go.IntKind.wrap Go.IntKind.i64 (y58.2.2.2.2.2.2.2.2.1.1 - (55296 : Int))) 10))) + (-(1 : Int)))) - (56320 : Int)))) fun y62 =>
            bif (!y62.1) then
              some (([] : List Int), (4 : Int), ())
            else
            bif (room (((List.length y58.2.2.2.1.1) + (List.length ((Go.IntKind.wrap Go.IntKind.i64 ((Go.IntKind.wrap Go.IntKind.i64 ((Go.IntKind.wrap Go.IntKind.i64 ((65536 : Int) + (shlI Go.IntKind.i64 (Go.IntKind.wrap Go.IntKind.i64 (y58.2.2.2.2.2.2.2.2.1.1 - (55296 : Int))) 10))) + (-(1 : Int)))) - (56320 : Int))) :: ([] : List Int)))) * 9)) then
            some ((y58.2.2.2.1.1 ++ ((Go.IntKind.wrap Go.IntKind.i64 ((Go.IntKind.wrap Go.IntKind.i64 ((Go.IntKind.wrap Go.IntKind.i64 ((65536 : Int) + (shlI Go.IntKind.i64 (Go.IntKind.wrap Go.IntKind.i64 (y58.2.2.2.2.2.2.2.2.1.1 - (55296 : Int))) 10))) + (-(1 : Int)))) - (56320 : Int))) :: ([] : List Int))), (0 : Int), ())
            else none
          else
          bif (Go.Iv.ilt (0 : Int) y58.2.2.2.2.2.2.2.2.1.1) then
            Option.bind (is n (-(1 : Int))) fun y63 =>
            bif (!y63.1) then
              some (([] : List Int), (4 : Int), ())
            else
            bif (room (((List.length y58.2.2.2.1.1) + (List.length ((-(1 : Int)) :: ([] : List Int)))) * 9)) then
            bif (Go.Iv.ilt (0 : Int) y58.2.2.2.2.2.2.2.2.1.1) then
              Option.bind (is (n + 2) (-(1 : Int))) fun y64 =>
              bif (!y64.1) then
                some (([] : List Int), (4 : Int), ())
              else
              bif (room (((List.length (y58.2.2.2.1.1 ++ ((-(1 : Int)) :: ([] : List Int)))) + (List.length ((-(1 : Int)) :: ([] : List Int)))) * 9)) then
              some (((y58.2.2.2.1.1 ++ ((-(1 : Int)) :: ([] : List Int))) ++ ((-(1 : Int)) :: ([] : List Int))), (0 : Int), ())
              else none
            else
            some ((y58.2.2.2.1.1 ++ ((-(1 : Int)) :: ([] : List Int))), (0 : Int), ())
            else none
          else
          Option.bind (is n (-(1 : Int))) fun y66 =>
          bif (!y66.1) then
            some (([] : List Int), (4 : Int), ())
          else
          bif (room (((List.length y58.2.2.2.1.1) + (List.length ((-(1 : Int)) :: ([] : List Int)))) * 9)) then
          bif (Go.Iv.ilt (0 : Int) y58.2.2.2.2.2.2.2.2.1.1) then
            Option.bind (is (n + 2) (-(1 : Int))) fun y67 =>
            bif (!y67.1) then
              some (([] : List Int), (4 : Int), ())
            else
            bif (room (((List.length (y58.2.2.2.1.1 ++ ((-(1 : Int)) :: ([] : List Int)))) + (List.length ((-(1 : Int)) :: ([] : List Int)))) * 9)) then
            some (((y58.2.2.2.1.1 ++ ((-(1 : Int)) :: ([] : List Int))) ++ ((-(1 : Int)) :: ([] : List Int))), (0 : Int), ())
            else none
          else
          some ((y58.2.2.2.1.1 ++ ((-(1 : Int)) :: ([] : List Int))), (0 : Int), ())
          else none
        else
        bif (Go.Iv.ilt (0 : Int) y58.2.2.2.2.2.2.2.2.1.1) then
          Option.bind (is (n + 2) (-(1 : Int))) fun y68 =>
          bif (!y68.1) then
            some (([] : List Int), (4 : Int), ())
          else
          bif (room (((List.length y58.2.2.2.1.1) + (List.length ((-(1 : Int)) :: ([] : List Int)))) * 9)) then
          some ((y58.2.2.2.1.1 ++ ((-(1 : Int)) :: ([] : List Int))), (0 : Int), ())
          else none
        else
        some (y58.2.2.2.1.1, (0 : Int), ())
      | .inr y59 =>
        some (([] : List Int), y59.2.2.1.1, ())
  else
  bif (y0.1 == (4 : Int)) then
    Option.bind (L81_0_71 (n + 2) (0 : Int) ([] : List Int) (List.take ((List.length b) - (Int.toNat y0.2.1)) (List.drop (Int.toNat y0.2.1) b)) (4 : Int) (y0.1 == (4 : Int))) fun y89 =>
    match y89 with
      | .inl y90 =>
        bif (Go.Iv.ilt (0 : Int) (len y90.2.2.2.2.1.1)) then
          Option.bind (is (n + 2) (-(1 : Int))) fun y92 =>
          bif (!y92.1) then
            some (([] : List Int), (4 : Int), ())
          else
          bif (room (((List.length y90.2.2.2.1.1) + (List.length ((-(1 : Int)) :: ([] : List Int)))) * 9)) then
          some ((y90.2.2.2.1.1 ++ ((-(1 : Int)) :: ([] : List Int))), (0 : Int), ())
          else none
        else
        some (y90.2.2.2.1.1, (0 : Int), ())
      | .inr y91 =>
        some (([] : List Int), y91.2.2.1.1, ())
  else
  bif (y0.1 == (5 : Int)) then
    Option.bind (L81_0_71 (n + 2) (0 : Int) ([] : List Int) (List.take ((List.length b) - (Int.toNat y0.2.1)) (List.drop (Int.toNat y0.2.1) b)) (4 : Int) (y0.1 == (4 : Int))) fun y93 =>
    match y93 with
      | .inl y94 =>
        bif (Go.Iv.ilt (0 : Int) (len y94.2.2.2.2.1.1)) then
          Option.bind (is (n + 2) (-(1 : Int))) fun y96 =>
          bif (!y96.1) then
            some (([] : List Int), (4 : Int), ())
          else
          bif (room (((List.length y94.2.2.2.1.1) + (List.length ((-(1 : Int)) :: ([] : List Int)))) * 9)) then
          some ((y94.2.2.2.1.1 ++ ((-(1 : Int)) :: ([] : List Int))), (0 : Int), ())
          else none
        else
        some (y94.2.2.2.1.1, (0 : Int), ())
      | .inr y95 =>
        some (([] : List Int), y95.2.2.1.1, ())
  else
  Option.bind (L83_0 (n + 2) (0 : Int) ([] : List Int) (List.take ((List.length b) - (Int.toNat y0.2.1)) (List.drop (Int.toNat y0.2.1) b))) fun y117 =>
  match y117 with
    | .inl y118 =>
      some (y118.2.2.2.1.1, (0 : Int), ())
    | .inr y119 =>
      some (([] : List Int), y119.2.2.1.1, ())
  else none
noncomputable def points_it : FnIt := ⟨15, [(false, (.slc .byte))], [(false, (.slc (.int .i64))), (false, (.int .i64))], 5, fun n x => points n x.1⟩
theorem points_ok (n : Nat) : FnOK Go.Proofs.Tryz.prog hint shT points_it n :=
  FnOK.of (hk := fun β => (Known.mk [is_it, form_it] [L83_0_it, L81_0_71_it, L81_0_it]).hk β) (sh := shT) (fun m _ => KnownOK.hook (((((KnownOK.nil.fn form_ok).loop L81_0_ok L81_0_T_ok).fn is_ok).loop L81_0_71_ok L81_0_71_T_ok).loop L83_0_ok L83_0_T_ok) m) (fun x => by kernel_rfl)


end Go.Proofs.YtlakipkfmdbckaaGreatDoor
