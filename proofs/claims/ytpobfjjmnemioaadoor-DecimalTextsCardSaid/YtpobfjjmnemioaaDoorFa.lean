/- Plain functions for the program's. -/
import Derived.Test.YtpobfjjmnemioaaDoorGs
import Derived.Test.YtpobfjjmnemioaaDoorProg
import Derived.KernelRfl
set_option linter.unusedSimpArgs false
set_option linter.unusedVariables false
namespace Go.Proofs.YtpobfjjmnemioaaDoor
open Go Go.Iv Go.Gv
set_option maxRecDepth 100000
noncomputable def hexR (_n : Nat) (c : Int) : Option (Int × Unit) :=
  Option.bind (bif (Go.Iv.ile (48 : Int) c) then
      some (Go.Iv.ile c (57 : Int))
    else
    some Bool.false) fun b1 =>
  bif b1 then
    some ((Go.IntKind.wrap Go.IntKind.i64 (c - (48 : Int))), ())
  else
  Option.bind (bif (Go.Iv.ile (97 : Int) c) then
      some (Go.Iv.ile c (102 : Int))
    else
    some Bool.false) fun b3 =>
  bif b3 then
    some ((Go.IntKind.wrap Go.IntKind.i64 ((Go.IntKind.wrap Go.IntKind.i64 (c - (97 : Int))) + (10 : Int))), ())
  else
  Option.bind (bif (Go.Iv.ile (65 : Int) c) then
      some (Go.Iv.ile c (70 : Int))
    else
    some Bool.false) fun b5 =>
  bif b5 then
    some ((Go.IntKind.wrap Go.IntKind.i64 ((Go.IntKind.wrap Go.IntKind.i64 (c - (65 : Int))) + (10 : Int))), ())
  else
  some ((-(1 : Int)), ())
noncomputable def hexR_it : FnIt := ⟨62, [(false, (.int .i64))], [(false, (.int .i64))], 0, fun n x => hexR n x.1⟩
theorem hexR_ok (n : Nat) : FnOK Go.Proofs.Tryd.prog hint shT hexR_it n :=
  FnOK.of (hk := fun β => (Known.mk [] []).hk β) (sh := shT) (fun m _ => KnownOK.hook KnownOK.nil m) (fun x => by kernel_rfl)

noncomputable def L45_2_Xexit0 : Tm := ⟨[(0, .one (.lst (.int .i64))), (3, .one (.int .i64))], [], 64, 64, 1000⟩
noncomputable def L45_2_T : Tm := ⟨[(0, .one (.lst (.int .i64))), (3, .one (.int .i64))], [], 64, 64, 1000⟩
noncomputable def L45_2 : Nat → (List Int) → Int → Option (((List Int) × (Int × Unit)) × Unit)
  | 0, _, _ => none
  | n + 1, t0, t3 =>
    Option.bind (bif (Go.Iv.ilt (1 : Int) t3) then
        bif (Go.Iv.ile (0 : Int) (Go.IntKind.wrap Go.IntKind.i64 (t3 - (1 : Int)))) then
        Option.bind (t0[(Int.toNat (Go.IntKind.wrap Go.IntKind.i64 (t3 - (1 : Int))))]?) fun x7 =>
        some (x7 == (0 : Int))
        else none
      else
      some Bool.false) fun b8 =>
    bif b8 then
      L45_2 n t0 (Go.IntKind.wrap Go.IntKind.i64 (t3 - (1 : Int)))
    else
    some ((t0, (t3, ())), ())
noncomputable def L45_2_it : LoopIt := ⟨45, 2, none, L45_2_T, [(.exit 0, L45_2_Xexit0)], 0, fun n x => L45_2 n x.1.1 x.1.2.1⟩
theorem L45_2_Xexit0_ok : L45_2_Xexit0.ok Go.Proofs.Tryd.prog hint := by
  intro p hp
  cases hp
theorem L45_2_T_ok : L45_2_T.ok Go.Proofs.Tryd.prog hint := by
  intro p hp
  cases hp
theorem L45_2_ok : ∀ n, LoopOK Go.Proofs.Tryd.prog hint shT L45_2_it n :=
  LoopOK.of (hk := fun β => (Known.mk [] []).hk β) (sh := shT) (OneLoop.of (by kernel_rfl)) L45_2_T_ok ⟨⟨L45_2_Xexit0_ok, Nat.le_refl _, Nat.le_refl _⟩, trivial⟩ (fun m => KnownOK.hook KnownOK.nil m)
    (fun _ => by kernel_rfl) (fun m x => by kernel_rfl)

noncomputable def L45_6_Xexit2 : Tm := ⟨[(4, .one (.all 65 5 .byte false))], [], 65, 66, 2002⟩
noncomputable def L45_6_T : Tm := ⟨[(0, .one (.lst (.int .i64))), (3, .one (.int .i64)), (4, .one (.all 65 5 .byte false)), (5, .one (.int .i64))], [], 65, 66, 2002⟩
noncomputable def L45_6 : Nat → (List Int) → Int → (List UInt8) → Int → Option (((List UInt8) × Unit) × Unit)
  | 0, _, _, _, _ => none
  | n + 1, t0, t3, t4, t5 =>
    bif (Go.Iv.ilt t5 t3) then
      bif (Go.Iv.ile (0 : Int) t5) then
      Option.bind (t0[(Int.toNat t5)]?) fun x14 =>
      bif ((Go.Iv.ile (0 : Int) (Go.IntKind.wrap Go.IntKind.i64 ((Go.IntKind.wrap Go.IntKind.i64 (t3 - (1 : Int))) - t5))) && (Go.Iv.ilt (Go.IntKind.wrap Go.IntKind.i64 ((Go.IntKind.wrap Go.IntKind.i64 (t3 - (1 : Int))) - t5)) (len t4))) then
      Option.bind (t4[(Int.toNat (Go.IntKind.wrap Go.IntKind.i64 ((Go.IntKind.wrap Go.IntKind.i64 (t3 - (1 : Int))) - t5)))]?) fun _ =>
      L45_6 n t0 t3 (List.set t4 (Int.toNat (Go.IntKind.wrap Go.IntKind.i64 ((Go.IntKind.wrap Go.IntKind.i64 (t3 - (1 : Int))) - t5))) (UInt8.ofNat (Int.toNat (Go.IntKind.wrap Go.IntKind.u8 (Go.IntKind.wrap Go.IntKind.i64 ((48 : Int) + x14)))))) (Go.IntKind.wrap Go.IntKind.i64 (t5 + (1 : Int)))
      else none
      else none
    else
    some ((t4, ()), ())
noncomputable def L45_6_it : LoopIt := ⟨45, 6, none, L45_6_T, [(.exit 2, L45_6_Xexit2)], 0, fun n x => L45_6 n x.1.1 x.1.2.1 x.1.2.2.1 x.1.2.2.2.1⟩
theorem L45_6_Xexit2_ok : L45_6_Xexit2.ok Go.Proofs.Tryd.prog hint := by
  intro p hp
  cases hp
theorem L45_6_T_ok : L45_6_T.ok Go.Proofs.Tryd.prog hint := by
  intro p hp
  cases hp
theorem L45_6_ok : ∀ n, LoopOK Go.Proofs.Tryd.prog hint shT L45_6_it n :=
  LoopOK.of (hk := fun β => (Known.mk [] []).hk β) (sh := shT) (OneLoop.of (by kernel_rfl)) L45_6_T_ok ⟨⟨L45_6_Xexit2_ok, Nat.le_refl _, Nat.le_refl _⟩, trivial⟩ (fun m => KnownOK.hook KnownOK.nil m)
    (fun _ => by kernel_rfl) (fun m x => by kernel_rfl)

noncomputable def writtenR (n : Nat) (l : List Int) : Option ((List UInt8) × Unit) :=
  Option.bind (L45_2 (n + 1) l (len l)) fun y9 =>
  bif (((Go.Iv.ile (0 : Int) y9.1.2.1) && (Go.Iv.ile y9.1.2.1 y9.1.2.1)) && (Go.Iv.ile (y9.1.2.1 * (2 : Int)) (1099511627776 : Int))) then
  Option.bind (L45_6 (n + 1) y9.1.1 y9.1.2.1 (List.replicate (Int.toNat y9.1.2.1) (0 : UInt8)) (0 : Int)) fun y16 =>
  some (y16.1.1, ())
  else none
noncomputable def writtenR_it : FnIt := ⟨45, [(false, (.slc (.int .i64)))], [(false, .str)], 1, fun n x => writtenR n x.1⟩
theorem writtenR_ok (n : Nat) : FnOK Go.Proofs.Tryd.prog hint shT writtenR_it n :=
  FnOK.of (hk := fun β => (Known.mk [] [L45_6_it, L45_2_it]).hk β) (sh := shT) (fun m _ => KnownOK.hook ((KnownOK.nil.loop L45_2_ok L45_2_T_ok).loop L45_6_ok L45_6_T_ok) m) (fun x => by kernel_rfl)

noncomputable def L46_3_Xexit0 : Tm := ⟨[(2, .one (.int .i64)), (7, .one (.all 64 3 (.int .i64) true))], [], 64, 65, 1000⟩
noncomputable def L46_3_T : Tm := ⟨[(0, .one (.lst (.int .i64))), (1, .one (.int .i64)), (2, .one (.int .i64)), (7, .one (.all 64 3 (.int .i64) true)), (8, .one (.int .i64))], [], 64, 65, 1000⟩
noncomputable def L46_3 : Nat → (List Int) → Int → Int → (List Int) → Int → Option ((Int × ((List Int) × Unit)) × Unit)
  | 0, _, _, _, _, _ => none
  | n + 1, t0, t1, t2, t7, t8 =>
    bif (Go.Iv.ilt t8 (len t0)) then
      bif (Go.Iv.ile (0 : Int) t8) then
      Option.bind (t0[(Int.toNat t8)]?) fun x3 =>
      bif (room (((List.length t7) + (List.length ((Int.tmod (Go.IntKind.wrap Go.IntKind.i64 (t2 + (Go.IntKind.wrap Go.IntKind.i64 (x3 * t1)))) (10 : Int)) :: ([] : List Int)))) * 9)) then
      L46_3 n t0 t1 (Go.IntKind.wrap Go.IntKind.i64 (Int.tdiv (Go.IntKind.wrap Go.IntKind.i64 (t2 + (Go.IntKind.wrap Go.IntKind.i64 (x3 * t1)))) (10 : Int))) (t7 ++ ((Int.tmod (Go.IntKind.wrap Go.IntKind.i64 (t2 + (Go.IntKind.wrap Go.IntKind.i64 (x3 * t1)))) (10 : Int)) :: ([] : List Int))) (Go.IntKind.wrap Go.IntKind.i64 (t8 + (1 : Int)))
      else none
      else none
    else
    some ((t2, (t7, ())), ())
noncomputable def L46_3_it : LoopIt := ⟨46, 3, none, L46_3_T, [(.exit 0, L46_3_Xexit0)], 0, fun n x => L46_3 n x.1.1 x.1.2.1 x.1.2.2.1 x.1.2.2.2.1 x.1.2.2.2.2.1⟩
theorem L46_3_Xexit0_ok : L46_3_Xexit0.ok Go.Proofs.Tryd.prog hint := by
  intro p hp
  cases hp
theorem L46_3_T_ok : L46_3_T.ok Go.Proofs.Tryd.prog hint := by
  intro p hp
  cases hp
theorem L46_3_ok : ∀ n, LoopOK Go.Proofs.Tryd.prog hint shT L46_3_it n :=
  LoopOK.of (hk := fun β => (Known.mk [] []).hk β) (sh := shT) (OneLoop.of (by kernel_rfl)) L46_3_T_ok ⟨⟨L46_3_Xexit0_ok, Nat.le_refl _, Nat.le_refl _⟩, trivial⟩ (fun m => KnownOK.hook KnownOK.nil m)
    (fun _ => by kernel_rfl) (fun m x => by kernel_rfl)

noncomputable def L46_8_Xexit2 : Tm := ⟨[(7, .one (.all 65 3 (.int .i64) true))], [], 65, 66, 2001⟩
noncomputable def L46_8_T : Tm := ⟨[(2, .one (.int .i64)), (7, .one (.all 65 3 (.int .i64) true))], [], 65, 66, 2001⟩
noncomputable def L46_8 : Nat → Int → (List Int) → Option (((List Int) × Unit) × Unit)
  | 0, _, _ => none
  | n + 1, t2, t7 =>
    bif (Go.Iv.ilt (0 : Int) t2) then
      bif (room (((List.length t7) + (List.length ((Int.tmod t2 (10 : Int)) :: ([] : List Int)))) * 9)) then
      L46_8 n (Go.IntKind.wrap Go.IntKind.i64 (Int.tdiv t2 (10 : Int))) (t7 ++ ((Int.tmod t2 (10 : Int)) :: ([] : List Int)))
      else none
    else
    some ((t7, ()), ())
noncomputable def L46_8_it : LoopIt := ⟨46, 8, none, L46_8_T, [(.exit 2, L46_8_Xexit2)], 0, fun n x => L46_8 n x.1.1 x.1.2.1⟩
theorem L46_8_Xexit2_ok : L46_8_Xexit2.ok Go.Proofs.Tryd.prog hint := by
  intro p hp
  cases hp
theorem L46_8_T_ok : L46_8_T.ok Go.Proofs.Tryd.prog hint := by
  intro p hp
  cases hp
theorem L46_8_ok : ∀ n, LoopOK Go.Proofs.Tryd.prog hint shT L46_8_it n :=
  LoopOK.of (hk := fun β => (Known.mk [] []).hk β) (sh := shT) (OneLoop.of (by kernel_rfl)) L46_8_T_ok ⟨⟨L46_8_Xexit2_ok, Nat.le_refl _, Nat.le_refl _⟩, trivial⟩ (fun m => KnownOK.hook KnownOK.nil m)
    (fun _ => by kernel_rfl) (fun m x => by kernel_rfl)

noncomputable def timesR (n : Nat) (l : List Int) (k : Int) (more : Int) : Option ((List Int) × Unit) :=
  Option.bind (L46_3 (n + 1) l k more ([] : List Int) (0 : Int)) fun y4 =>
  Option.bind (L46_8 (n + 1) y4.1.1 y4.1.2.1) fun y5 =>
  bif ((len y5.1.1) == (0 : Int)) then
    some (((0 : Int) :: ([] : List Int)), ())
  else
  some (y5.1.1, ())
noncomputable def timesR_it : FnIt := ⟨46, [(false, (.slc (.int .i64))), (false, (.int .i64)), (false, (.int .i64))], [(false, (.slc (.int .i64)))], 1, fun n x => timesR n x.1 x.2.1 x.2.2.1⟩
theorem timesR_ok (n : Nat) : FnOK Go.Proofs.Tryd.prog hint shT timesR_it n :=
  FnOK.of (hk := fun β => (Known.mk [] [L46_8_it, L46_3_it]).hk β) (sh := shT) (fun m _ => KnownOK.hook ((KnownOK.nil.loop L46_3_ok L46_3_T_ok).loop L46_8_ok L46_8_T_ok) m) (fun x => by kernel_rfl)

noncomputable def L44_5_Xexit0 : Tm := ⟨[(5, .one (.all 64 3 (.int .i64) true))], [], 64, 65, 1000⟩
noncomputable def L44_5_Xret : Tm := ⟨[(4, .one (.fix (Go.Gv.TV.raw (Go.Value.slice (Option.none) 0 0))))], [], 64, 64, 1000⟩
noncomputable def L44_5_T : Tm := ⟨[(0, .one (.str)), (1, .one (.int .i64)), (5, .one (.all 64 3 (.int .i64) true)), (6, .one (.int .i64))], [], 64, 65, 1000⟩
noncomputable def L44_5 : Nat → (List UInt8) → Int → (List Int) → Int → Option ((((List Int) × Unit) × Unit) ⊕ ((Unit × Unit) × Unit))
  | 0, _, _, _, _ => none
  | n + 1, t0, t1, t5, t6 =>
    bif (Go.Iv.ilt t6 (len t0)) then
      bif (Go.Iv.ile (0 : Int) t6) then
      Option.bind (t0[(Int.toNat t6)]?) fun x14 =>
      Option.bind (hexR (n + 1) (Go.IntKind.wrap Go.IntKind.i64 (ub x14))) fun y15 =>
      Option.bind (bif (Go.Iv.ilt y15.1 (0 : Int)) then
          some Bool.true
        else
        some (Go.Iv.ile t1 y15.1)) fun b17 =>
      bif b17 then
        some (.inr (((), ()), ()))
      else
      bif (room (((List.length t5) + (List.length (y15.1 :: ([] : List Int)))) * 9)) then
      L44_5 n t0 t1 (t5 ++ (y15.1 :: ([] : List Int))) (Go.IntKind.wrap Go.IntKind.i64 (t6 + (1 : Int)))
      else none
      else none
    else
    some (.inl ((t5, ()), ()))
noncomputable def L44_5_it : LoopIt := ⟨44, 5, none, L44_5_T, [(.exit 0, L44_5_Xexit0), (.ret, L44_5_Xret)], 1, fun n x => L44_5 n x.1.1 x.1.2.1 x.1.2.2.1 x.1.2.2.2.1⟩
theorem L44_5_Xexit0_ok : L44_5_Xexit0.ok Go.Proofs.Tryd.prog hint := by
  intro p hp
  cases hp
theorem L44_5_Xret_ok : L44_5_Xret.ok Go.Proofs.Tryd.prog hint := by
  intro p hp
  cases hp
theorem L44_5_T_ok : L44_5_T.ok Go.Proofs.Tryd.prog hint := by
  intro p hp
  cases hp
theorem L44_5_ok : ∀ n, LoopOK Go.Proofs.Tryd.prog hint shT L44_5_it n :=
  LoopOK.of (hk := fun β => (Known.mk [hexR_it] []).hk β) (sh := shT) (OneLoop.of (by kernel_rfl)) L44_5_T_ok ⟨⟨L44_5_Xexit0_ok, Nat.le_refl _, Nat.le_refl _⟩, ⟨L44_5_Xret_ok, Nat.le_refl _, Nat.le_refl _⟩, trivial⟩ (fun m => KnownOK.hook (KnownOK.nil.fn hexR_ok) m)
    (fun _ => by kernel_rfl) (fun m x => by kernel_rfl)

noncomputable def L30_8_Xexit0 : Tm := ⟨[(7, .one (.all 66 3 (.int .i64) true))], [], 66, 67, 2002⟩
noncomputable def L30_8_T : Tm := ⟨[(6, .one (.all 66 3 (.int .i64) true)), (7, .one (.all 67 3 (.int .i64) true)), (8, .one (.int .i64))], [], 66, 68, 2002⟩
noncomputable def L30_8 : Nat → (List Int) → (List Int) → Int → Option (((List Int) × Unit) × Unit)
  | 0, _, _, _ => none
  | n + 1, t6, t7, t8 =>
    bif (Go.Iv.ile (0 : Int) t8) then
      bif ((Go.Iv.ile (0 : Int) t8) && (Go.Iv.ilt t8 (len t6))) then
      Option.bind (t6[(Int.toNat t8)]?) fun x24 =>
      bif (room (((List.length t7) + (List.length (x24 :: ([] : List Int)))) * 9)) then
      L30_8 n t6 (t7 ++ (x24 :: ([] : List Int))) (Go.IntKind.wrap Go.IntKind.i64 (t8 - (1 : Int)))
      else none
      else none
    else
    some ((t7, ()), ())
noncomputable def L30_8_it : LoopIt := ⟨30, 8, none, L30_8_T, [(.exit 0, L30_8_Xexit0)], 0, fun n x => L30_8 n x.1.1 x.1.2.1 x.1.2.2.1⟩
theorem L30_8_Xexit0_ok : L30_8_Xexit0.ok Go.Proofs.Tryd.prog hint := by
  intro p hp
  cases hp
theorem L30_8_T_ok : L30_8_T.ok Go.Proofs.Tryd.prog hint := by
  intro p hp
  cases hp
theorem L30_8_ok : ∀ n, LoopOK Go.Proofs.Tryd.prog hint shT L30_8_it n :=
  LoopOK.of (hk := fun β => (Known.mk [] []).hk β) (sh := shT) (OneLoop.of (by kernel_rfl)) L30_8_T_ok ⟨⟨L30_8_Xexit0_ok, Nat.le_refl _, Nat.le_refl _⟩, trivial⟩ (fun m => KnownOK.hook KnownOK.nil m)
    (fun _ => by kernel_rfl) (fun m x => by kernel_rfl)

noncomputable def L30_13_Xexit2 : Tm := ⟨[(7, .one (.lst (.int .i64)))], [], 66, 66, 2002⟩
noncomputable def L30_13_T : Tm := ⟨[(1, .one (.int .i64)), (6, .one (.all 66 3 (.int .i64) true)), (7, .one (.lst (.int .i64))), (9, .one (.int .i64))], [], 66, 67, 2002⟩
noncomputable def L30_13 : Nat → Int → (List Int) → (List Int) → Int → Option (((List Int) × Unit) × Unit)
  | 0, _, _, _, _ => none
  | n + 1, t1, t6, t7, t9 =>
    bif (Go.Iv.ilt t9 (len t6)) then
      bif ((Go.Iv.ile (0 : Int) t9) && (Go.Iv.ilt t9 (len t6))) then
      Option.bind (t6[(Int.toNat t9)]?) fun x33 =>
      Option.bind (timesR (n + 1) t7 t1 x33) fun y34 =>
      L30_13 n t1 t6 y34.1 (Go.IntKind.wrap Go.IntKind.i64 (t9 + (1 : Int)))
      else none
    else
    some ((t7, ()), ())
noncomputable def L30_13_it : LoopIt := ⟨30, 13, none, L30_13_T, [(.exit 2, L30_13_Xexit2)], 2, fun n x => L30_13 n x.1.1 x.1.2.1 x.1.2.2.1 x.1.2.2.2.1⟩
theorem L30_13_Xexit2_ok : L30_13_Xexit2.ok Go.Proofs.Tryd.prog hint := by
  intro p hp
  cases hp
theorem L30_13_T_ok : L30_13_T.ok Go.Proofs.Tryd.prog hint := by
  intro p hp
  cases hp
theorem L30_13_ok : ∀ n, LoopOK Go.Proofs.Tryd.prog hint shT L30_13_it n :=
  LoopOK.of (hk := fun β => (Known.mk [timesR_it] []).hk β) (sh := shT) (OneLoop.of (by kernel_rfl)) L30_13_T_ok ⟨⟨L30_13_Xexit2_ok, Nat.le_refl _, Nat.le_refl _⟩, trivial⟩ (fun m => KnownOK.hook (KnownOK.nil.fn timesR_ok) m)
    (fun _ => by kernel_rfl) (fun m x => by kernel_rfl)

noncomputable def plainR (n : Nat) (s : List UInt8) (base : Int) : Option ((List UInt8) × (Bool × Unit)) :=
  Option.bind (bif (s == ([] : List UInt8)) then
      some Bool.true
    else
    bif (Go.Iv.ilt (5000 : Int) (len s)) then
      some Bool.true
    else
    bif (base != (8 : Int)) then
      bif (base != (10 : Int)) then
        some (base != (16 : Int))
      else
      some Bool.false
    else
    some Bool.false) fun b1 =>
  bif b1 then
    some (([] : List UInt8), Bool.false, ())
  else
  Option.bind (L44_5 n s base ([] : List Int) (0 : Int)) fun y18 =>
  match y18 with
    | .inl y19 =>
      bif (ite (Eq Bool.false Bool.true) (!(List.isEmpty y19.1.1)) (List.isEmpty y19.1.1)) then
        some (([] : List UInt8), Bool.false, ())
      else
      bif (base == (10 : Int)) then
        Option.bind (L30_8 (n + 2) y19.1.1 ([] : List Int) (Go.IntKind.wrap Go.IntKind.i64 ((len y19.1.1) - (1 : Int)))) fun y25 =>
        Option.bind (writtenR n y25.1.1) fun y26 =>
        some (y26.1, Bool.true, ())
      else
      Option.bind (L30_13 n base y19.1.1 ((0 : Int) :: ([] : List Int)) (0 : Int)) fun y35 =>
      Option.bind (writtenR n y35.1.1) fun y36 =>
      some (y36.1, Bool.true, ())
    | .inr _ =>
      some (([] : List UInt8), Bool.false, ())
noncomputable def plainR_it : FnIt := ⟨30, [(false, .str), (false, (.int .i64))], [(false, .str), (false, .bool)], 2, fun n x => plainR n x.1 x.2.1⟩
theorem plainR_ok (n : Nat) : FnOK Go.Proofs.Tryd.prog hint shT plainR_it n :=
  FnOK.of (hk := fun β => (Known.mk [writtenR_it] [L30_13_it, L30_8_it, L44_5_it]).hk β) (sh := shT) (fun m _ => KnownOK.hook ((((KnownOK.nil.loop L44_5_ok L44_5_T_ok).loop L30_8_ok L30_8_T_ok).fn writtenR_ok).loop L30_13_ok L30_13_T_ok) m) (fun x => by kernel_rfl)

noncomputable def beginsR (_n : Nat) (s : List UInt8) (x : List UInt8) : Option (Bool × Unit) :=
  bif (Go.Iv.ile (len x) (len s)) then
    bif (Go.Iv.ile (len x) (len s)) then
    some (((List.take ((Int.toNat (len x)) - 0) (List.drop 0 s)) == x), ())
    else none
  else
  some (Bool.false, ())
noncomputable def beginsR_it : FnIt := ⟨29, [(false, .str), (false, .str)], [(false, .bool)], 0, fun n x => beginsR n x.1 x.2.1⟩
theorem beginsR_ok (n : Nat) : FnOK Go.Proofs.Tryd.prog hint shT beginsR_it n :=
  FnOK.of (hk := fun β => (Known.mk [] []).hk β) (sh := shT) (fun m _ => KnownOK.hook KnownOK.nil m) (fun x => by kernel_rfl)

noncomputable def L31_1_Xexit0 : Tm := ⟨[(0, .one (.bool)), (1, .one (.str)), (2, .one (.int .i64)), (6, .one (.fix (Go.Gv.TV.ptr 64 0)))], [(64, .cells 24 [.bool, .str, .int .i64, .int .i64] true)], 65, 65, 1001⟩
noncomputable def L31_1_T : Tm := ⟨[(0, .one (.bool)), (1, .one (.str)), (2, .one (.int .i64)), (6, .one (.fix (Go.Gv.TV.ptr 64 0)))], [(64, .cells 24 [.bool, .str, .int .i64, .int .i64] true)], 65, 65, 1001⟩
noncomputable def L31_1 : Nat → Bool → (List UInt8) → Int → Bool → (List UInt8) → Int → Int → Option ((Bool × ((List UInt8) × (Int × (Unit × Unit)))) × ((Bool × ((List UInt8) × (Int × (Int × Unit)))) × Unit))
  | 0, _, _, _, _, _, _, _ => none
  | n + 1, t0, t1, t2, c64_0, c64_1, c64_2, c64_3 =>
    Option.bind (bif (Go.Iv.ilt (1 : Int) (len t1)) then
        Option.bind (t1[0]?) fun x7 =>
        some (x7 == (48 : UInt8))
      else
      some Bool.false) fun b8 =>
    bif b8 then
      bif (Go.Iv.ile (1 : Int) (len t1)) then
      L31_1 n t0 (List.take ((List.length t1) - 1) (List.drop 1 t1)) t2 c64_0 c64_1 c64_2 c64_3
      else none
    else
    some ((t0, (t1, (t2, ((), ())))), ((c64_0, (c64_1, (c64_2, (c64_3, ())))), ()))
noncomputable def L31_1_it : LoopIt := ⟨31, 1, none, L31_1_T, [(.exit 0, L31_1_Xexit0)], 0, fun n x => L31_1 n x.1.1 x.1.2.1 x.1.2.2.1 x.2.1.1 x.2.1.2.1 x.2.1.2.2.1 x.2.1.2.2.2.1⟩
theorem L31_1_Xexit0_ok : L31_1_Xexit0.ok Go.Proofs.Tryd.prog hint := by
  intro p hp
  simp only [L31_1_Xexit0, List.mem_cons, List.not_mem_nil, or_false] at hp
  rcases hp with rfl
  · trivial
theorem L31_1_T_ok : L31_1_T.ok Go.Proofs.Tryd.prog hint := by
  intro p hp
  simp only [L31_1_T, List.mem_cons, List.not_mem_nil, or_false] at hp
  rcases hp with rfl
  · trivial
theorem L31_1_ok : ∀ n, LoopOK Go.Proofs.Tryd.prog hint shT L31_1_it n :=
  LoopOK.of (hk := fun β => (Known.mk [] []).hk β) (sh := shT) (OneLoop.of (by kernel_rfl)) L31_1_T_ok ⟨⟨L31_1_Xexit0_ok, Nat.le_refl _, Nat.le_refl _⟩, trivial⟩ (fun m => KnownOK.hook KnownOK.nil m)
    (fun _ => by kernel_rfl) (fun m x => by kernel_rfl)

noncomputable def L31_5_Xexit2 : Tm := ⟨[(0, .one (.bool)), (1, .one (.str)), (2, .one (.int .i64)), (6, .one (.fix (Go.Gv.TV.ptr 64 0)))], [(64, .cells 24 [.bool, .str, .int .i64, .int .i64] true)], 65, 65, 2002⟩
noncomputable def L31_5_T : Tm := ⟨[(0, .one (.bool)), (1, .one (.str)), (2, .one (.int .i64)), (6, .one (.fix (Go.Gv.TV.ptr 64 0)))], [(64, .cells 24 [.bool, .str, .int .i64, .int .i64] true)], 65, 65, 2002⟩
noncomputable def L31_5 : Nat → Bool → (List UInt8) → Int → Bool → (List UInt8) → Int → Int → Option ((Bool × ((List UInt8) × (Int × (Unit × Unit)))) × ((Bool × ((List UInt8) × (Int × (Int × Unit)))) × Unit))
  | 0, _, _, _, _, _, _, _ => none
  | n + 1, t0, t1, t2, c64_0, c64_1, c64_2, c64_3 =>
    bif (Go.Iv.ile (0 : Int) (Go.IntKind.wrap Go.IntKind.i64 ((len t1) - (1 : Int)))) then
    Option.bind (t1[(Int.toNat (Go.IntKind.wrap Go.IntKind.i64 ((len t1) - (1 : Int))))]?) fun x14 =>
    bif (x14 == (48 : UInt8)) then
      bif ((Go.Iv.ile (0 : Int) (Go.IntKind.wrap Go.IntKind.i64 ((len t1) - (1 : Int)))) && (Go.Iv.ile (Go.IntKind.wrap Go.IntKind.i64 ((len t1) - (1 : Int))) (len t1))) then
      L31_5 n t0 (List.take ((Int.toNat (Go.IntKind.wrap Go.IntKind.i64 ((len t1) - (1 : Int)))) - 0) (List.drop 0 t1)) (Go.IntKind.wrap Go.IntKind.i64 (t2 + (1 : Int))) c64_0 c64_1 c64_2 c64_3
      else none
    else
    some ((t0, (t1, (t2, ((), ())))), ((c64_0, (c64_1, (c64_2, (c64_3, ())))), ()))
    else none
noncomputable def L31_5_it : LoopIt := ⟨31, 5, none, L31_5_T, [(.exit 2, L31_5_Xexit2)], 0, fun n x => L31_5 n x.1.1 x.1.2.1 x.1.2.2.1 x.2.1.1 x.2.1.2.1 x.2.1.2.2.1 x.2.1.2.2.2.1⟩
theorem L31_5_Xexit2_ok : L31_5_Xexit2.ok Go.Proofs.Tryd.prog hint := by
  intro p hp
  simp only [L31_5_Xexit2, List.mem_cons, List.not_mem_nil, or_false] at hp
  rcases hp with rfl
  · trivial
theorem L31_5_T_ok : L31_5_T.ok Go.Proofs.Tryd.prog hint := by
  intro p hp
  simp only [L31_5_T, List.mem_cons, List.not_mem_nil, or_false] at hp
  rcases hp with rfl
  · trivial
theorem L31_5_ok : ∀ n, LoopOK Go.Proofs.Tryd.prog hint shT L31_5_it n :=
  LoopOK.of (hk := fun β => (Known.mk [] []).hk β) (sh := shT) (OneLoop.of (by kernel_rfl)) L31_5_T_ok ⟨⟨L31_5_Xexit2_ok, Nat.le_refl _, Nat.le_refl _⟩, trivial⟩ (fun m => KnownOK.hook KnownOK.nil m)
    (fun _ => by kernel_rfl) (fun m x => by kernel_rfl)

noncomputable def tidyR (n : Nat) (below : Bool) (digits : List UInt8) (exp : Int) : Option ((Bool × (List UInt8 × (Int × Int))) × Unit) :=
  Option.bind (L31_1 (n + 1) below digits exp Bool.false ([] : List UInt8) (0 : Int) (0 : Int)) fun y9 =>
  Option.bind (bif (y9.1.2.1 == ([(48 : UInt8)] : List UInt8)) then
      some Bool.true
    else
    some (y9.1.2.1 == ([] : List UInt8))) fun b11 =>
  bif b11 then
    some ((y9.1.1, (([(48 : UInt8)] : List UInt8), ((0 : Int), (0 : Int)))), ())
  else
  Option.bind (L31_5 (n + 1) y9.1.1 y9.1.2.1 y9.1.2.2.1 y9.2.1.1 y9.2.1.2.1 y9.2.1.2.2.1 y9.2.1.2.2.2.1) fun y15 =>
  some ((y15.1.1, (y15.1.2.1, (y15.1.2.2.1, (0 : Int)))), ())
noncomputable def tidyR_it : FnIt := ⟨31, [(false, .bool), (false, .str), (false, (.int .i64))], [(true, (.cons .bool (.cons .str (.cons (.int .i64) (.int .i64)))))], 1, fun n x => tidyR n x.1 x.2.1 x.2.2.1⟩
theorem tidyR_ok (n : Nat) : FnOK Go.Proofs.Tryd.prog hint shT tidyR_it n :=
  FnOK.of (hk := fun β => (Known.mk [] [L31_5_it, L31_1_it]).hk β) (sh := shT) (fun m _ => KnownOK.hook ((KnownOK.nil.loop L31_1_ok L31_1_T_ok).loop L31_5_ok L31_5_T_ok) m) (fun x => by kernel_rfl)

noncomputable def signedR (n : Nat) (s : List UInt8) : Option ((List UInt8) × (Bool × Unit)) :=
  Option.bind (beginsR n s ([(45 : UInt8)] : List UInt8)) fun y0 =>
  bif y0.1 then
    bif (Go.Iv.ile (1 : Int) (len s)) then
    Option.bind (s[0]?) fun x1 =>
    some ((List.take ((List.length s) - 1) (List.drop 1 s)), (x1 == (45 : UInt8)), ())
    else none
  else
  Option.bind (beginsR n s ([(43 : UInt8)] : List UInt8)) fun y2 =>
  bif y2.1 then
    bif (Go.Iv.ile (1 : Int) (len s)) then
    Option.bind (s[0]?) fun x3 =>
    some ((List.take ((List.length s) - 1) (List.drop 1 s)), (x3 == (45 : UInt8)), ())
    else none
  else
  some (s, Bool.false, ())
noncomputable def signedR_it : FnIt := ⟨28, [(false, .str)], [(false, .str), (false, .bool)], 1, fun n x => signedR n x.1⟩
theorem signedR_ok (n : Nat) : FnOK Go.Proofs.Tryd.prog hint shT signedR_it n :=
  FnOK.of (hk := fun β => (Known.mk [beginsR_it] []).hk β) (sh := shT) (fun m _ => KnownOK.hook (KnownOK.nil.fn beginsR_ok) m) (fun x => by kernel_rfl)

noncomputable def L32_2_Xexit0 : Tm := ⟨[(0, .one (.str)), (1, .one (.int .i64)), (6, .one (.int .i64))], [], 64, 64, 1000⟩
noncomputable def L32_2_T : Tm := ⟨[(0, .one (.str)), (1, .one (.int .i64)), (6, .one (.int .i64))], [], 64, 64, 1000⟩
noncomputable def L32_2 : Nat → (List UInt8) → Int → Int → Option (((List UInt8) × (Int × (Int × Unit))) × Unit)
  | 0, _, _, _ => none
  | n + 1, t0, t1, t6 =>
    Option.bind (bif (Go.Iv.ilt t1 (len t0)) then
        bif (Go.Iv.ile (0 : Int) t1) then
        Option.bind (t0[(Int.toNat t1)]?) fun x9 =>
        bif (Nat.ble (UInt8.toNat (48 : UInt8)) (UInt8.toNat x9)) then
          bif (Go.Iv.ile (0 : Int) t1) then
          Option.bind (t0[(Int.toNat t1)]?) fun x10 =>
          some (Nat.ble (UInt8.toNat x10) (UInt8.toNat (57 : UInt8)))
          else none
        else
        some Bool.false
        else none
      else
      some Bool.false) fun b11 =>
    bif b11 then
      L32_2 n t0 (Go.IntKind.wrap Go.IntKind.i64 (t1 + (1 : Int))) t6
    else
    some ((t0, (t1, (t6, ()))), ())
noncomputable def L32_2_it : LoopIt := ⟨32, 2, none, L32_2_T, [(.exit 0, L32_2_Xexit0)], 0, fun n x => L32_2 n x.1.1 x.1.2.1 x.1.2.2.1⟩
theorem L32_2_Xexit0_ok : L32_2_Xexit0.ok Go.Proofs.Tryd.prog hint := by
  intro p hp
  cases hp
theorem L32_2_T_ok : L32_2_T.ok Go.Proofs.Tryd.prog hint := by
  intro p hp
  cases hp
theorem L32_2_ok : ∀ n, LoopOK Go.Proofs.Tryd.prog hint shT L32_2_it n :=
  LoopOK.of (hk := fun β => (Known.mk [] []).hk β) (sh := shT) (OneLoop.of (by kernel_rfl)) L32_2_T_ok ⟨⟨L32_2_Xexit0_ok, Nat.le_refl _, Nat.le_refl _⟩, trivial⟩ (fun m => KnownOK.hook KnownOK.nil m)
    (fun _ => by kernel_rfl) (fun m x => by kernel_rfl)

noncomputable def runR (n : Nat) (s : List UInt8) (i : Int) : Option ((List UInt8) × (Int × Unit)) :=
  Option.bind (L32_2 (n + 1) s i i) fun y12 =>
  bif ((Go.Iv.ile (0 : Int) y12.1.2.1) && (Go.Iv.ile y12.1.2.1 (len y12.1.1))) then
  bif ((Go.Iv.ile (0 : Int) y12.1.2.2.1) && (Go.Iv.ile y12.1.2.2.1 (((Int.toNat y12.1.2.1) : Nat) : Int))) then
  some ((List.take ((Int.toNat y12.1.2.1) - (Int.toNat y12.1.2.2.1)) (List.drop (Int.toNat y12.1.2.2.1) y12.1.1)), y12.1.2.1, ())
  else none
  else none
noncomputable def runR_it : FnIt := ⟨32, [(false, .str), (false, (.int .i64))], [(false, .str), (false, (.int .i64))], 1, fun n x => runR n x.1 x.2.1⟩
theorem runR_ok (n : Nat) : FnOK Go.Proofs.Tryd.prog hint shT runR_it n :=
  FnOK.of (hk := fun β => (Known.mk [] [L32_2_it]).hk β) (sh := shT) (fun m _ => KnownOK.hook (KnownOK.nil.loop L32_2_ok L32_2_T_ok) m) (fun x => by kernel_rfl)

noncomputable def intR (n : Nat) (s : List UInt8) : Option ((Bool × (List UInt8 × (Int × Int))) × (Bool × Unit)) :=
  Option.bind (signedR (n + 1) s) fun y0 =>
  Option.bind (beginsR (n + 2) s ([(48 : UInt8), (111 : UInt8)] : List UInt8)) fun y1 =>
  bif y1.1 then
    bif (Go.Iv.ile (2 : Int) (len s)) then
    Option.bind (beginsR (n + 2) s ([(48 : UInt8), (120 : UInt8)] : List UInt8)) fun y2 =>
    bif y2.1 then
      bif (Go.Iv.ile (2 : Int) (len s)) then
      Option.bind (plainR n (List.take ((List.length s) - 2) (List.drop 2 s)) (16 : Int)) fun y3 =>
      bif (!y3.2.1) then
        some ((Bool.false, (([] : List UInt8), ((0 : Int), (0 : Int)))), Bool.false, ())
      else
      bif y0.2.1 then
        Option.bind (tidyR (n + 1) (!(y3.1 == ([(48 : UInt8)] : List UInt8))) y3.1 (0 : Int)) fun y4 =>
        some ((y4.1.1, (y4.1.2.1, (y4.1.2.2.1, y4.1.2.2.2))), Bool.true, ())
      else
      Option.bind (tidyR (n + 1) Bool.false y3.1 (0 : Int)) fun y5 =>
      some ((y5.1.1, (y5.1.2.1, (y5.1.2.2.1, y5.1.2.2.2))), Bool.true, ())
      else none
    else
    Option.bind (plainR n (List.take ((List.length s) - 2) (List.drop 2 s)) (8 : Int)) fun y6 =>
    bif (!y6.2.1) then
      some ((Bool.false, (([] : List UInt8), ((0 : Int), (0 : Int)))), Bool.false, ())
    else
    bif y0.2.1 then
      Option.bind (tidyR (n + 1) (!(y6.1 == ([(48 : UInt8)] : List UInt8))) y6.1 (0 : Int)) fun y7 =>
      some ((y7.1.1, (y7.1.2.1, (y7.1.2.2.1, y7.1.2.2.2))), Bool.true, ())
    else
    Option.bind (tidyR (n + 1) Bool.false y6.1 (0 : Int)) fun y8 =>
    some ((y8.1.1, (y8.1.2.1, (y8.1.2.2.1, y8.1.2.2.2))), Bool.true, ())
    else none
  else
  Option.bind (beginsR (n + 2) s ([(48 : UInt8), (120 : UInt8)] : List UInt8)) fun y9 =>
  bif y9.1 then
    bif (Go.Iv.ile (2 : Int) (len s)) then
    Option.bind (plainR n (List.take ((List.length s) - 2) (List.drop 2 s)) (16 : Int)) fun y10 =>
    bif (!y10.2.1) then
      some ((Bool.false, (([] : List UInt8), ((0 : Int), (0 : Int)))), Bool.false, ())
    else
    bif y0.2.1 then
      Option.bind (tidyR (n + 1) (!(y10.1 == ([(48 : UInt8)] : List UInt8))) y10.1 (0 : Int)) fun y11 =>
      some ((y11.1.1, (y11.1.2.1, (y11.1.2.2.1, y11.1.2.2.2))), Bool.true, ())
    else
    Option.bind (tidyR (n + 1) Bool.false y10.1 (0 : Int)) fun y12 =>
    some ((y12.1.1, (y12.1.2.1, (y12.1.2.2.1, y12.1.2.2.2))), Bool.true, ())
    else none
  else
  Option.bind (plainR n y0.1 (10 : Int)) fun y13 =>
  bif (!y13.2.1) then
    some ((Bool.false, (([] : List UInt8), ((0 : Int), (0 : Int)))), Bool.false, ())
  else
  bif y0.2.1 then
    Option.bind (tidyR (n + 1) (!(y13.1 == ([(48 : UInt8)] : List UInt8))) y13.1 (0 : Int)) fun y14 =>
    some ((y14.1.1, (y14.1.2.1, (y14.1.2.2.1, y14.1.2.2.2))), Bool.true, ())
  else
  Option.bind (tidyR (n + 1) Bool.false y13.1 (0 : Int)) fun y15 =>
  some ((y15.1.1, (y15.1.2.1, (y15.1.2.2.1, y15.1.2.2.2))), Bool.true, ())
noncomputable def intR_it : FnIt := ⟨16, [(false, .str)], [(true, (.cons .bool (.cons .str (.cons (.int .i64) (.int .i64))))), (false, .bool)], 3, fun n x => intR n x.1⟩
theorem intR_ok (n : Nat) : FnOK Go.Proofs.Tryd.prog hint shT intR_it n :=
  FnOK.of (hk := fun β => (Known.mk [tidyR_it, plainR_it, beginsR_it, signedR_it] []).hk β) (sh := shT) (fun m _ => KnownOK.hook ((((KnownOK.nil.fn signedR_ok).fn beginsR_ok).fn plainR_ok).fn tidyR_ok) m) (fun x => by kernel_rfl)

noncomputable def L17_25_Xexit2 : Tm := ⟨[(2, .one (.fix (Go.Gv.TV.ptr 64 0))), (4, .one (.str)), (5, .one (.bool)), (6, .one (.str)), (8, .one (.str)), (9, .one (.int .i64)), (11, .one (.bool))], [(64, .cells 24 [.bool, .str, .int .i64, .int .i64] true)], 65, 65, 1001⟩
noncomputable def L17_25_T : Tm := ⟨[(2, .one (.fix (Go.Gv.TV.ptr 64 0))), (4, .one (.str)), (5, .one (.bool)), (6, .one (.str)), (8, .one (.str)), (9, .one (.int .i64)), (11, .one (.bool)), (12, .one (.str)), (13, .one (.int .i64)), (14, .one (.int .i64))], [(64, .cells 24 [.bool, .str, .int .i64, .int .i64] true)], 65, 65, 1001⟩
noncomputable def L17_25 : Nat → (List UInt8) → Bool → (List UInt8) → (List UInt8) → Int → Bool → (List UInt8) → Int → Int → Bool → (List UInt8) → Int → Int → Option ((Unit × ((List UInt8) × (Bool × ((List UInt8) × ((List UInt8) × (Int × (Bool × Unit))))))) × ((Bool × ((List UInt8) × (Int × (Int × Unit)))) × Unit))
  | 0, _, _, _, _, _, _, _, _, _, _, _, _, _ => none
  | n + 1, t4, t5, t6, t8, t9, t11, t12, t13, t14, c64_0, c64_1, c64_2, c64_3 =>
    bif (Go.Iv.ilt t14 t13) then
      bif (Go.Iv.ile (0 : Int) t14) then
      Option.bind (t12[(Int.toNat t14)]?) fun x18 =>
      L17_25 n t4 t5 t6 t8 (Go.IntKind.wrap Go.IntKind.i64 ((Go.IntKind.wrap Go.IntKind.i64 ((Go.IntKind.wrap Go.IntKind.i64 (t9 * (10 : Int))) + (Go.IntKind.wrap Go.IntKind.i64 (ub x18)))) - (48 : Int))) t11 t12 t13 (Go.IntKind.wrap Go.IntKind.i64 (t14 + (1 : Int))) c64_0 c64_1 c64_2 c64_3
      else none
    else
    some (((), (t4, (t5, (t6, (t8, (t9, (t11, ()))))))), ((c64_0, (c64_1, (c64_2, (c64_3, ())))), ()))
noncomputable def L17_25_it : LoopIt := ⟨17, 25, none, L17_25_T, [(.exit 2, L17_25_Xexit2)], 0, fun n x => L17_25 n x.1.2.1 x.1.2.2.1 x.1.2.2.2.1 x.1.2.2.2.2.1 x.1.2.2.2.2.2.1 x.1.2.2.2.2.2.2.1 x.1.2.2.2.2.2.2.2.1 x.1.2.2.2.2.2.2.2.2.1 x.1.2.2.2.2.2.2.2.2.2.1 x.2.1.1 x.2.1.2.1 x.2.1.2.2.1 x.2.1.2.2.2.1⟩
theorem L17_25_Xexit2_ok : L17_25_Xexit2.ok Go.Proofs.Tryd.prog hint := by
  intro p hp
  simp only [L17_25_Xexit2, List.mem_cons, List.not_mem_nil, or_false] at hp
  rcases hp with rfl
  · trivial
theorem L17_25_T_ok : L17_25_T.ok Go.Proofs.Tryd.prog hint := by
  intro p hp
  simp only [L17_25_T, List.mem_cons, List.not_mem_nil, or_false] at hp
  rcases hp with rfl
  · trivial
theorem L17_25_ok : ∀ n, LoopOK Go.Proofs.Tryd.prog hint shT L17_25_it n :=
  LoopOK.of (hk := fun β => (Known.mk [] []).hk β) (sh := shT) (OneLoop.of (by kernel_rfl)) L17_25_T_ok ⟨⟨L17_25_Xexit2_ok, Nat.le_refl _, Nat.le_refl _⟩, trivial⟩ (fun m => KnownOK.hook KnownOK.nil m)
    (fun _ => by kernel_rfl) (fun m x => by kernel_rfl)

noncomputable def floatR (n : Nat) (s : List UInt8) : Option ((Bool × (List UInt8 × (Int × Int))) × (Bool × Unit)) :=
  Option.bind (signedR n s) fun y0 =>
  bif (y0.1 == ([(46 : UInt8), (105 : UInt8), (110 : UInt8), (102 : UInt8)] : List UInt8)) then
    some ((y0.2.1, (([] : List UInt8), ((0 : Int), (1 : Int)))), Bool.true, ())
  else
  bif (y0.1 == ([(46 : UInt8), (73 : UInt8), (110 : UInt8), (102 : UInt8)] : List UInt8)) then
    some ((y0.2.1, (([] : List UInt8), ((0 : Int), (1 : Int)))), Bool.true, ())
  else
  bif (y0.1 == ([(46 : UInt8), (73 : UInt8), (78 : UInt8), (70 : UInt8)] : List UInt8)) then
    some ((y0.2.1, (([] : List UInt8), ((0 : Int), (1 : Int)))), Bool.true, ())
  else
  bif (s == ([(46 : UInt8), (110 : UInt8), (97 : UInt8), (110 : UInt8)] : List UInt8)) then
    some ((Bool.false, (([] : List UInt8), ((0 : Int), (2 : Int)))), Bool.true, ())
  else
  bif (s == ([(46 : UInt8), (78 : UInt8), (97 : UInt8), (78 : UInt8)] : List UInt8)) then
    some ((Bool.false, (([] : List UInt8), ((0 : Int), (2 : Int)))), Bool.true, ())
  else
  bif (s == ([(46 : UInt8), (78 : UInt8), (65 : UInt8), (78 : UInt8)] : List UInt8)) then
    some ((Bool.false, (([] : List UInt8), ((0 : Int), (2 : Int)))), Bool.true, ())
  else
  Option.bind (runR n y0.1 (0 : Int)) fun y1 =>
  Option.bind (bif (Go.Iv.ilt y1.2.1 (len y0.1)) then
      bif (Go.Iv.ile (0 : Int) y1.2.1) then
      Option.bind (y0.1[(Int.toNat y1.2.1)]?) fun x3 =>
      some (x3 == (46 : UInt8))
      else none
    else
    some Bool.false) fun b4 =>
  bif b4 then
    Option.bind (runR n y0.1 (Go.IntKind.wrap Go.IntKind.i64 (y1.2.1 + (1 : Int)))) fun y5 =>
    Option.bind (bif (y1.1 == ([] : List UInt8)) then
        bif (y5.1 == ([] : List UInt8)) then
          some Bool.true
        else
        some (Go.Iv.ilt (5000 : Int) (Go.IntKind.wrap Go.IntKind.i64 ((len y1.1) + (len y5.1))))
      else
      some (Go.Iv.ilt (5000 : Int) (Go.IntKind.wrap Go.IntKind.i64 ((len y1.1) + (len y5.1))))) fun b7 =>
    bif b7 then
      some ((Bool.false, (([] : List UInt8), ((0 : Int), (0 : Int)))), Bool.false, ())
    else
    Option.bind (bif (Go.Iv.ilt y5.2.1 (len y0.1)) then
        bif (Go.Iv.ile (0 : Int) y5.2.1) then
        Option.bind (y0.1[(Int.toNat y5.2.1)]?) fun x9 =>
        bif (x9 == (101 : UInt8)) then
          some Bool.true
        else
        bif (Go.Iv.ile (0 : Int) y5.2.1) then
        Option.bind (y0.1[(Int.toNat y5.2.1)]?) fun x10 =>
        some (x10 == (69 : UInt8))
        else none
        else none
      else
      some Bool.false) fun b11 =>
    bif b11 then
      bif ((Go.Iv.ile (0 : Int) (Go.IntKind.wrap Go.IntKind.i64 (y5.2.1 + (1 : Int)))) && (Go.Iv.ile (Go.IntKind.wrap Go.IntKind.i64 (y5.2.1 + (1 : Int))) (len y0.1))) then
      Option.bind (signedR n (List.take ((List.length y0.1) - (Int.toNat (Go.IntKind.wrap Go.IntKind.i64 (y5.2.1 + (1 : Int))))) (List.drop (Int.toNat (Go.IntKind.wrap Go.IntKind.i64 (y5.2.1 + (1 : Int)))) y0.1))) fun y12 =>
      Option.bind (runR n y12.1 (0 : Int)) fun y13 =>
      Option.bind (bif (y13.2.1 != (len y12.1)) then
          some Bool.true
        else
        bif (Go.Iv.ilt y13.2.1 (1 : Int)) then
          some Bool.true
        else
        some (Go.Iv.ilt (9 : Int) y13.2.1)) fun b15 =>
      bif b15 then
        some ((Bool.false, (([] : List UInt8), ((0 : Int), (0 : Int)))), Bool.false, ())
      else
      Option.bind (L17_25 (n + 2) y0.1 y0.2.1 y1.1 y5.1 (0 : Int) y12.2.1 y13.1 y13.2.1 (0 : Int) Bool.false ([] : List UInt8) (0 : Int) (0 : Int)) fun y19 =>
      bif y19.1.2.2.2.2.2.2.1 then
        bif ((len y19.1.2.1) != (len y19.1.2.1)) then
          some ((Bool.false, (([] : List UInt8), ((0 : Int), (0 : Int)))), Bool.false, ())
        else
        bif (room ((List.length y19.1.2.2.2.1) + (List.length y19.1.2.2.2.2.1))) then
        Option.bind (tidyR n y19.1.2.2.1 (y19.1.2.2.2.1 ++ y19.1.2.2.2.2.1) (Go.IntKind.wrap Go.IntKind.i64 ((Go.IntKind.wrap Go.IntKind.i64 ((0 : Int) - y19.1.2.2.2.2.2.1)) - (len y19.1.2.2.2.2.1)))) fun y20 =>
        some ((y20.1.1, (y20.1.2.1, (y20.1.2.2.1, y20.1.2.2.2))), Bool.true, ())
        else none
      else
      bif ((len y19.1.2.1) != (len y19.1.2.1)) then
        some ((Bool.false, (([] : List UInt8), ((0 : Int), (0 : Int)))), Bool.false, ())
      else
      bif (room ((List.length y19.1.2.2.2.1) + (List.length y19.1.2.2.2.2.1))) then
      Option.bind (tidyR n y19.1.2.2.1 (y19.1.2.2.2.1 ++ y19.1.2.2.2.2.1) (Go.IntKind.wrap Go.IntKind.i64 (y19.1.2.2.2.2.2.1 - (len y19.1.2.2.2.2.1)))) fun y21 =>
      some ((y21.1.1, (y21.1.2.1, (y21.1.2.2.1, y21.1.2.2.2))), Bool.true, ())
      else none
      else none
    else
    bif (y5.2.1 != (len y0.1)) then
      some ((Bool.false, (([] : List UInt8), ((0 : Int), (0 : Int)))), Bool.false, ())
    else
    bif (room ((List.length y1.1) + (List.length y5.1))) then
    Option.bind (tidyR n y0.2.1 (y1.1 ++ y5.1) (Go.IntKind.wrap Go.IntKind.i64 ((0 : Int) - (len y5.1)))) fun y22 =>
    some ((y22.1.1, (y22.1.2.1, (y22.1.2.2.1, y22.1.2.2.2))), Bool.true, ())
    else none
  else
  Option.bind (bif (y1.1 == ([] : List UInt8)) then
      some Bool.true
    else
    some (Go.Iv.ilt (5000 : Int) (Go.IntKind.wrap Go.IntKind.i64 ((len y1.1) + (0 : Int))))) fun b24 =>
  bif b24 then
    some ((Bool.false, (([] : List UInt8), ((0 : Int), (0 : Int)))), Bool.false, ())
  else
  Option.bind (bif (Go.Iv.ilt y1.2.1 (len y0.1)) then
      bif (Go.Iv.ile (0 : Int) y1.2.1) then
      Option.bind (y0.1[(Int.toNat y1.2.1)]?) fun x26 =>
      bif (x26 == (101 : UInt8)) then
        some Bool.true
      else
      bif (Go.Iv.ile (0 : Int) y1.2.1) then
      Option.bind (y0.1[(Int.toNat y1.2.1)]?) fun x27 =>
      some (x27 == (69 : UInt8))
      else none
      else none
    else
    some Bool.false) fun b28 =>
  bif b28 then
    bif ((Go.Iv.ile (0 : Int) (Go.IntKind.wrap Go.IntKind.i64 (y1.2.1 + (1 : Int)))) && (Go.Iv.ile (Go.IntKind.wrap Go.IntKind.i64 (y1.2.1 + (1 : Int))) (len y0.1))) then
    Option.bind (signedR n (List.take ((List.length y0.1) - (Int.toNat (Go.IntKind.wrap Go.IntKind.i64 (y1.2.1 + (1 : Int))))) (List.drop (Int.toNat (Go.IntKind.wrap Go.IntKind.i64 (y1.2.1 + (1 : Int)))) y0.1))) fun y29 =>
    Option.bind (runR n y29.1 (0 : Int)) fun y30 =>
    Option.bind (bif (y30.2.1 != (len y29.1)) then
        some Bool.true
      else
      bif (Go.Iv.ilt y30.2.1 (1 : Int)) then
        some Bool.true
      else
      some (Go.Iv.ilt (9 : Int) y30.2.1)) fun b32 =>
    bif b32 then
      some ((Bool.false, (([] : List UInt8), ((0 : Int), (0 : Int)))), Bool.false, ())
    else
    Option.bind (L17_25 (n + 2) y0.1 y0.2.1 y1.1 ([] : List UInt8) (0 : Int) y29.2.1 y30.1 y30.2.1 (0 : Int) Bool.false ([] : List UInt8) (0 : Int) (0 : Int)) fun y33 =>
    bif y33.1.2.2.2.2.2.2.1 then
      bif ((len y33.1.2.1) != (len y33.1.2.1)) then
        some ((Bool.false, (([] : List UInt8), ((0 : Int), (0 : Int)))), Bool.false, ())
      else
      bif (room ((List.length y33.1.2.2.2.1) + (List.length y33.1.2.2.2.2.1))) then
      Option.bind (tidyR n y33.1.2.2.1 (y33.1.2.2.2.1 ++ y33.1.2.2.2.2.1) (Go.IntKind.wrap Go.IntKind.i64 ((Go.IntKind.wrap Go.IntKind.i64 ((0 : Int) - y33.1.2.2.2.2.2.1)) - (len y33.1.2.2.2.2.1)))) fun y34 =>
      some ((y34.1.1, (y34.1.2.1, (y34.1.2.2.1, y34.1.2.2.2))), Bool.true, ())
      else none
    else
    bif ((len y33.1.2.1) != (len y33.1.2.1)) then
      some ((Bool.false, (([] : List UInt8), ((0 : Int), (0 : Int)))), Bool.false, ())
    else
    bif (room ((List.length y33.1.2.2.2.1) + (List.length y33.1.2.2.2.2.1))) then
    Option.bind (tidyR n y33.1.2.2.1 (y33.1.2.2.2.1 ++ y33.1.2.2.2.2.1) (Go.IntKind.wrap Go.IntKind.i64 (y33.1.2.2.2.2.2.1 - (len y33.1.2.2.2.2.1)))) fun y35 =>
    some ((y35.1.1, (y35.1.2.1, (y35.1.2.2.1, y35.1.2.2.2))), Bool.true, ())
    else none
    else none
  else
  bif (y1.2.1 != (len y0.1)) then
    some ((Bool.false, (([] : List UInt8), ((0 : Int), (0 : Int)))), Bool.false, ())
  else
  bif (room ((List.length y1.1) + (List.length ([] : List UInt8)))) then
  Option.bind (tidyR n y0.2.1 (y1.1 ++ ([] : List UInt8)) (0 : Int)) fun y36 =>
  some ((y36.1.1, (y36.1.2.1, (y36.1.2.2.1, y36.1.2.2.2))), Bool.true, ())
  else none
noncomputable def floatR_it : FnIt := ⟨17, [(false, .str)], [(true, (.cons .bool (.cons .str (.cons (.int .i64) (.int .i64))))), (false, .bool)], 2, fun n x => floatR n x.1⟩
theorem floatR_ok (n : Nat) : FnOK Go.Proofs.Tryd.prog hint shT floatR_it n :=
  FnOK.of (hk := fun β => (Known.mk [tidyR_it, runR_it, signedR_it] [L17_25_it]).hk β) (sh := shT) (fun m _ => KnownOK.hook ((((KnownOK.nil.fn signedR_ok).fn runR_ok).loop L17_25_ok L17_25_T_ok).fn tidyR_ok) m) (fun x => by kernel_rfl)


end Go.Proofs.YtpobfjjmnemioaaDoor
