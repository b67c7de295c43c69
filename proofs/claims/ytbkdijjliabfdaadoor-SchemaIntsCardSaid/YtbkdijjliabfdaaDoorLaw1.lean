/- Plain functions for the program's. -/
import Derived.Test.YtbkdijjliabfdaaDoorLaw
import Derived.Test.YtbkdijjliabfdaaDoorGvImp
import Derived.Test.YtbkdijjliabfdaaDoorProg
import Derived.Test.YtbkdijjliabfdaaDoorGs
import Derived.Test.YtbkdijjliabfdaaDoorGvSpec
set_option linter.unusedSimpArgs false
set_option linter.unusedVariables false
namespace Go.Proofs.YtbkdijjliabfdaaDoor
open Go Go.Iv Go.Gv
set_option maxRecDepth 100000
set_option linter.unusedVariables false
noncomputable def L5_8_Xexit0 : Tm := ⟨[(0, .one (.int .i64)), (1, .one (.bool)), (6, .one (.str)), (7, .one (.str)), (8, .one (.str))], [], 64, 64, 1000⟩
noncomputable def L5_8_T : Tm := ⟨[(0, .one (.int .i64)), (1, .one (.bool)), (6, .one (.str)), (7, .one (.str)), (8, .one (.str)), (9, .one (.int .i64))], [], 64, 64, 1000⟩
noncomputable def L5_8 : Nat → Int → Bool → (List UInt8) → (List UInt8) → (List UInt8) → Int → Option ((Int × (Bool × ((List UInt8) × ((List UInt8) × ((List UInt8) × Unit))))) × Unit)
  | 0, _, _, _, _, _, _ => none
  | n + 1, t0, t1, t6, t7, t8, t9 =>
    Option.bind (bif (Go.Iv.ilt (0 : Int) t9) then
        some Bool.true
      else
      some (t7 == ([] : List UInt8))) fun b9 =>
    bif b9 then
      bif ((Go.Iv.ile (0 : Int) (Go.IntKind.wrap Go.IntKind.i64 ((andI Go.IntKind.i64 t9 (7 : Int)) + (1 : Int)))) && (Go.Iv.ile (Go.IntKind.wrap Go.IntKind.i64 ((andI Go.IntKind.i64 t9 (7 : Int)) + (1 : Int))) (8 : Int))) then
      bif ((Go.Iv.ile (0 : Int) (andI Go.IntKind.i64 t9 (7 : Int))) && (Go.Iv.ile (andI Go.IntKind.i64 t9 (7 : Int)) (((Int.toNat (Go.IntKind.wrap Go.IntKind.i64 ((andI Go.IntKind.i64 t9 (7 : Int)) + (1 : Int)))) : Nat) : Int))) then
      bif (room ((List.length (List.take ((Int.toNat (Go.IntKind.wrap Go.IntKind.i64 ((andI Go.IntKind.i64 t9 (7 : Int)) + (1 : Int)))) - (Int.toNat (andI Go.IntKind.i64 t9 (7 : Int)))) (List.drop (Int.toNat (andI Go.IntKind.i64 t9 (7 : Int))) ([(48 : UInt8), (49 : UInt8), (50 : UInt8), (51 : UInt8), (52 : UInt8), (53 : UInt8), (54 : UInt8), (55 : UInt8)] : List UInt8)))) + (List.length t7))) then
      L5_8 n t0 t1 t6 ((List.take ((Int.toNat (Go.IntKind.wrap Go.IntKind.i64 ((andI Go.IntKind.i64 t9 (7 : Int)) + (1 : Int)))) - (Int.toNat (andI Go.IntKind.i64 t9 (7 : Int)))) (List.drop (Int.toNat (andI Go.IntKind.i64 t9 (7 : Int))) ([(48 : UInt8), (49 : UInt8), (50 : UInt8), (51 : UInt8), (52 : UInt8), (53 : UInt8), (54 : UInt8), (55 : UInt8)] : List UInt8))) ++ t7) t8 (shrI Go.IntKind.i64 t9 3)
      else none
      else none
      else none
    else
    some ((t0, (t1, (t6, (t7, (t8, ()))))), ())
noncomputable def L5_8_it : LoopIt := ⟨5, 8, none, L5_8_T, [(.exit 0, L5_8_Xexit0)], 0, fun n x => L5_8 n x.1.1 x.1.2.1 x.1.2.2.1 x.1.2.2.2.1 x.1.2.2.2.2.1 x.1.2.2.2.2.2.1⟩
theorem L5_8_Xexit0_ok : L5_8_Xexit0.ok Go.Proofs.Tryd.prog hint := by
  intro p hp
  cases hp
theorem L5_8_T_ok : L5_8_T.ok Go.Proofs.Tryd.prog hint := by
  intro p hp
  cases hp
theorem L5_8_ok : ∀ n, LoopOK Go.Proofs.Tryd.prog hint shT L5_8_it n :=
  LoopOK.of (hk := fun β => (Known.mk [] []).hk β) (sh := shT) (OneLoop.of (by kernel_rfl)) L5_8_T_ok ⟨⟨L5_8_Xexit0_ok, Nat.le_refl _, Nat.le_refl _⟩, trivial⟩ (fun m => KnownOK.hook KnownOK.nil m)
    (fun _ => by kernel_rfl) (fun m x => by kernel_rfl)

noncomputable def L5_12_Xexit2 : Tm := ⟨[(0, .one (.int .i64)), (1, .one (.bool)), (6, .one (.str)), (7, .one (.str)), (8, .one (.str))], [], 64, 64, 2001⟩
noncomputable def L5_12_T : Tm := ⟨[(0, .one (.int .i64)), (1, .one (.bool)), (6, .one (.str)), (7, .one (.str)), (8, .one (.str)), (10, .one (.int .i64))], [], 64, 64, 2001⟩
noncomputable def L5_12 : Nat → Int → Bool → (List UInt8) → (List UInt8) → (List UInt8) → Int → Option ((Int × (Bool × ((List UInt8) × ((List UInt8) × ((List UInt8) × Unit))))) × Unit)
  | 0, _, _, _, _, _, _ => none
  | n + 1, t0, t1, t6, t7, t8, t10 =>
    Option.bind (bif (Go.Iv.ilt (0 : Int) t10) then
        some Bool.true
      else
      some (t8 == ([] : List UInt8))) fun b16 =>
    bif b16 then
      bif ((Go.Iv.ile (0 : Int) (Go.IntKind.wrap Go.IntKind.i64 ((andI Go.IntKind.i64 t10 (15 : Int)) + (1 : Int)))) && (Go.Iv.ile (Go.IntKind.wrap Go.IntKind.i64 ((andI Go.IntKind.i64 t10 (15 : Int)) + (1 : Int))) (16 : Int))) then
      bif ((Go.Iv.ile (0 : Int) (andI Go.IntKind.i64 t10 (15 : Int))) && (Go.Iv.ile (andI Go.IntKind.i64 t10 (15 : Int)) (((Int.toNat (Go.IntKind.wrap Go.IntKind.i64 ((andI Go.IntKind.i64 t10 (15 : Int)) + (1 : Int)))) : Nat) : Int))) then
      bif (room ((List.length (List.take ((Int.toNat (Go.IntKind.wrap Go.IntKind.i64 ((andI Go.IntKind.i64 t10 (15 : Int)) + (1 : Int)))) - (Int.toNat (andI Go.IntKind.i64 t10 (15 : Int)))) (List.drop (Int.toNat (andI Go.IntKind.i64 t10 (15 : Int))) ([(48 : UInt8), (49 : UInt8), (50 : UInt8), (51 : UInt8), (52 : UInt8), (53 : UInt8), (54 : UInt8), (55 : UInt8), (56 : UInt8), (57 : UInt8), (97 : UInt8), (98 : UInt8), (99 : UInt8), (100 : UInt8), (101 : UInt8), (102 : UInt8)] : List UInt8)))) + (List.length t8))) then
      L5_12 n t0 t1 t6 t7 ((List.take ((Int.toNat (Go.IntKind.wrap Go.IntKind.i64 ((andI Go.IntKind.i64 t10 (15 : Int)) + (1 : Int)))) - (Int.toNat (andI Go.IntKind.i64 t10 (15 : Int)))) (List.drop (Int.toNat (andI Go.IntKind.i64 t10 (15 : Int))) ([(48 : UInt8), (49 : UInt8), (50 : UInt8), (51 : UInt8), (52 : UInt8), (53 : UInt8), (54 : UInt8), (55 : UInt8), (56 : UInt8), (57 : UInt8), (97 : UInt8), (98 : UInt8), (99 : UInt8), (100 : UInt8), (101 : UInt8), (102 : UInt8)] : List UInt8))) ++ t8) (shrI Go.IntKind.i64 t10 4)
      else none
      else none
      else none
    else
    some ((t0, (t1, (t6, (t7, (t8, ()))))), ())
noncomputable def L5_12_it : LoopIt := ⟨5, 12, none, L5_12_T, [(.exit 2, L5_12_Xexit2)], 0, fun n x => L5_12 n x.1.1 x.1.2.1 x.1.2.2.1 x.1.2.2.2.1 x.1.2.2.2.2.1 x.1.2.2.2.2.2.1⟩
theorem L5_12_Xexit2_ok : L5_12_Xexit2.ok Go.Proofs.Tryd.prog hint := by
  intro p hp
  cases hp
theorem L5_12_T_ok : L5_12_T.ok Go.Proofs.Tryd.prog hint := by
  intro p hp
  cases hp
theorem L5_12_ok : ∀ n, LoopOK Go.Proofs.Tryd.prog hint shT L5_12_it n :=
  LoopOK.of (hk := fun β => (Known.mk [] []).hk β) (sh := shT) (OneLoop.of (by kernel_rfl)) L5_12_T_ok ⟨⟨L5_12_Xexit2_ok, Nat.le_refl _, Nat.le_refl _⟩, trivial⟩ (fun m => KnownOK.hook KnownOK.nil m)
    (fun _ => by kernel_rfl) (fun m x => by kernel_rfl)

noncomputable def schemaInts (n : Nat) (v : Int) (below : Bool) : Option (Bool × Unit) :=
  Option.bind (alive n ) fun y0 =>
  Option.bind (bif (!y0.1) then
      some Bool.true
    else
    some (Go.Iv.ilt v (0 : Int))) fun b2 =>
  bif b2 then
    some (y0.1, ())
  else
  Option.bind (digitsR (n + 10) v) fun y3 =>
  Option.bind (L5_8 (n + 11) v below y3.1 ([] : List UInt8) ([] : List UInt8) v) fun y10 =>
  Option.bind (L5_12 (n + 11) y10.1.1 y10.1.2.1 y10.1.2.2.1 y10.1.2.2.2.1 y10.1.2.2.2.2.1 y10.1.1) fun y17 =>
  Option.bind (valueS (n + 1) ([(116 : UInt8), (97 : UInt8), (103 : UInt8), (58 : UInt8), (121 : UInt8), (97 : UInt8), (109 : UInt8), (108 : UInt8), (46 : UInt8), (111 : UInt8), (114 : UInt8), (103 : UInt8), (44 : UInt8), (50 : UInt8), (48 : UInt8), (48 : UInt8), (50 : UInt8), (58 : UInt8), (105 : UInt8), (110 : UInt8), (116 : UInt8)] : List UInt8) y17.1.2.2.1) fun y18 =>
  bif (room ((List.length ([(48 : UInt8), (111 : UInt8)] : List UInt8)) + (List.length y17.1.2.2.2.1))) then
  Option.bind (valueS (n + 1) ([(116 : UInt8), (97 : UInt8), (103 : UInt8), (58 : UInt8), (121 : UInt8), (97 : UInt8), (109 : UInt8), (108 : UInt8), (46 : UInt8), (111 : UInt8), (114 : UInt8), (103 : UInt8), (44 : UInt8), (50 : UInt8), (48 : UInt8), (48 : UInt8), (50 : UInt8), (58 : UInt8), (105 : UInt8), (110 : UInt8), (116 : UInt8)] : List UInt8) (([(48 : UInt8), (111 : UInt8)] : List UInt8) ++ y17.1.2.2.2.1)) fun y19 =>
  bif (room ((List.length ([(48 : UInt8), (120 : UInt8)] : List UInt8)) + (List.length y17.1.2.2.2.2.1))) then
  Option.bind (valueS (n + 1) ([(116 : UInt8), (97 : UInt8), (103 : UInt8), (58 : UInt8), (121 : UInt8), (97 : UInt8), (109 : UInt8), (108 : UInt8), (46 : UInt8), (111 : UInt8), (114 : UInt8), (103 : UInt8), (44 : UInt8), (50 : UInt8), (48 : UInt8), (48 : UInt8), (50 : UInt8), (58 : UInt8), (105 : UInt8), (110 : UInt8), (116 : UInt8)] : List UInt8) (([(48 : UInt8), (120 : UInt8)] : List UInt8) ++ y17.1.2.2.2.2.1)) fun y20 =>
  bif y17.1.2.1 then
    bif (room ((List.length ([(45 : UInt8)] : List UInt8)) + (List.length y17.1.2.2.1))) then
    Option.bind (valueS (n + 1) ([(116 : UInt8), (97 : UInt8), (103 : UInt8), (58 : UInt8), (121 : UInt8), (97 : UInt8), (109 : UInt8), (108 : UInt8), (46 : UInt8), (111 : UInt8), (114 : UInt8), (103 : UInt8), (44 : UInt8), (50 : UInt8), (48 : UInt8), (48 : UInt8), (50 : UInt8), (58 : UInt8), (105 : UInt8), (110 : UInt8), (116 : UInt8)] : List UInt8) (([(45 : UInt8)] : List UInt8) ++ y17.1.2.2.1)) fun y21 =>
    bif (room ((List.length ([(45 : UInt8)] : List UInt8)) + (List.length y17.1.2.2.1))) then
    Option.bind (valueS (n + 1) ([(116 : UInt8), (97 : UInt8), (103 : UInt8), (58 : UInt8), (121 : UInt8), (97 : UInt8), (109 : UInt8), (108 : UInt8), (46 : UInt8), (111 : UInt8), (114 : UInt8), (103 : UInt8), (44 : UInt8), (50 : UInt8), (48 : UInt8), (48 : UInt8), (50 : UInt8), (58 : UInt8), (102 : UInt8), (108 : UInt8), (111 : UInt8), (97 : UInt8), (116 : UInt8)] : List UInt8) (([(45 : UInt8)] : List UInt8) ++ y17.1.2.2.1)) fun y22 =>
    Option.bind (bif ((y18.1.2.2.1.1 == y19.1.2.2.1.1) && ((y18.1.2.2.1.2.1 == y19.1.2.2.1.2.1) && ((y18.1.2.2.1.2.2.1 == y19.1.2.2.1.2.2.1) && ((y18.1.2.2.1.2.2.2 == y19.1.2.2.1.2.2.2) && Bool.true)))) then
        some ((y18.1.2.2.1.1 == y20.1.2.2.1.1) && ((y18.1.2.2.1.2.1 == y20.1.2.2.1.2.1) && ((y18.1.2.2.1.2.2.1 == y20.1.2.2.1.2.2.1) && ((y18.1.2.2.1.2.2.2 == y20.1.2.2.1.2.2.2) && Bool.true))))
      else
      some Bool.false) fun b24 =>
    Option.bind (bif y17.1.2.1 then
        bif (y21.1.2.2.1.1 == (Go.Iv.ilt (0 : Int) y17.1.1)) then
          bif (y21.1.2.2.1.2.1 == y18.1.2.2.1.2.1) then
            some (y21.1.2.2.1.2.2.1 == y18.1.2.2.1.2.2.1)
          else
          some Bool.false
        else
        some Bool.false
      else
      bif (y21.1.2.2.1.1 == Bool.false) then
        bif (y21.1.2.2.1.2.1 == y18.1.2.2.1.2.1) then
          some (y21.1.2.2.1.2.2.1 == y18.1.2.2.1.2.2.1)
        else
        some Bool.false
      else
      some Bool.false) fun b26 =>
    bif (y18.2.1 == (0 : Int)) then
      bif (y19.2.1 == (0 : Int)) then
        bif (y20.2.1 == (0 : Int)) then
          bif (y21.2.1 == (0 : Int)) then
            bif (y22.2.1 == (0 : Int)) then
              bif b24 then
                bif b26 then
                  bif (y22.1.1 == (4 : Int)) then
                    bif (y22.1.2.2.1.2.1 == y18.1.2.2.1.2.1) then
                      some ((y22.1.2.2.1.2.2.1 == y18.1.2.2.1.2.2.1), ())
                    else
                    some (Bool.false, ())
                  else
                  some (Bool.false, ())
                else
                some (Bool.false, ())
              else
              some (Bool.false, ())
            else
            some (Bool.false, ())
          else
          some (Bool.false, ())
        else
        some (Bool.false, ())
      else
      some (Bool.false, ())
    else
    some (Bool.false, ())
    else none
    else none
  else
  bif (room ((List.length ([(43 : UInt8)] : List UInt8)) + (List.length y17.1.2.2.1))) then
  Option.bind (valueS (n + 1) ([(116 : UInt8), (97 : UInt8), (103 : UInt8), (58 : UInt8), (121 : UInt8), (97 : UInt8), (109 : UInt8), (108 : UInt8), (46 : UInt8), (111 : UInt8), (114 : UInt8), (103 : UInt8), (44 : UInt8), (50 : UInt8), (48 : UInt8), (48 : UInt8), (50 : UInt8), (58 : UInt8), (105 : UInt8), (110 : UInt8), (116 : UInt8)] : List UInt8) (([(43 : UInt8)] : List UInt8) ++ y17.1.2.2.1)) fun y27 =>
  bif (room ((List.length ([(43 : UInt8)] : List UInt8)) + (List.length y17.1.2.2.1))) then
  Option.bind (valueS (n + 1) ([(116 : UInt8), (97 : UInt8), (103 : UInt8), (58 : UInt8), (121 : UInt8), (97 : UInt8), (109 : UInt8), (108 : UInt8), (46 : UInt8), (111 : UInt8), (114 : UInt8), (103 : UInt8), (44 : UInt8), (50 : UInt8), (48 : UInt8), (48 : UInt8), (50 : UInt8), (58 : UInt8), (102 : UInt8), (108 : UInt8), (111 : UInt8), (97 : UInt8), (116 : UInt8)] : List UInt8) (([(43 : UInt8)] : List UInt8) ++ y17.1.2.2.1)) fun y28 =>
  Option.bind (bif ((y18.1.2.2.1.1 == y19.1.2.2.1.1) && ((y18.1.2.2.1.2.1 == y19.1.2.2.1.2.1) && ((y18.1.2.2.1.2.2.1 == y19.1.2.2.1.2.2.1) && ((y18.1.2.2.1.2.2.2 == y19.1.2.2.1.2.2.2) && Bool.true)))) then
      some ((y18.1.2.2.1.1 == y20.1.2.2.1.1) && ((y18.1.2.2.1.2.1 == y20.1.2.2.1.2.1) && ((y18.1.2.2.1.2.2.1 == y20.1.2.2.1.2.2.1) && ((y18.1.2.2.1.2.2.2 == y20.1.2.2.1.2.2.2) && Bool.true))))
    else
    some Bool.false) fun b30 =>
  Option.bind (bif y17.1.2.1 then
      bif (y27.1.2.2.1.1 == (Go.Iv.ilt (0 : Int) y17.1.1)) then
        bif (y27.1.2.2.1.2.1 == y18.1.2.2.1.2.1) then
          some (y27.1.2.2.1.2.2.1 == y18.1.2.2.1.2.2.1)
        else
        some Bool.false
      else
      some Bool.false
    else
    bif (y27.1.2.2.1.1 == Bool.false) then
      bif (y27.1.2.2.1.2.1 == y18.1.2.2.1.2.1) then
        some (y27.1.2.2.1.2.2.1 == y18.1.2.2.1.2.2.1)
      else
      some Bool.false
    else
    some Bool.false) fun b32 =>
  bif (y18.2.1 == (0 : Int)) then
    bif (y19.2.1 == (0 : Int)) then
      bif (y20.2.1 == (0 : Int)) then
        bif (y27.2.1 == (0 : Int)) then
          bif (y28.2.1 == (0 : Int)) then
            bif b30 then
              bif b32 then
                bif (y28.1.1 == (4 : Int)) then
                  bif (y28.1.2.2.1.2.1 == y18.1.2.2.1.2.1) then
                    some ((y28.1.2.2.1.2.2.1 == y18.1.2.2.1.2.2.1), ())
                  else
                  some (Bool.false, ())
                else
                some (Bool.false, ())
              else
              some (Bool.false, ())
            else
            some (Bool.false, ())
          else
          some (Bool.false, ())
        else
        some (Bool.false, ())
      else
      some (Bool.false, ())
    else
    some (Bool.false, ())
  else
  some (Bool.false, ())
  else none
  else none
  else none
  else none
noncomputable def schemaInts_it : FnIt := ⟨5, [(false, (.int .i64)), (false, .bool)], [(false, .bool)], 11, fun n x => schemaInts n x.1 x.2.1⟩
theorem schemaInts_ok (n : Nat) : FnOK Go.Proofs.Tryd.prog hint shT schemaInts_it n :=
  FnOK.of (hk := fun β => (Known.mk [valueS_it, digitsR_it, alive_it] [L5_12_it, L5_8_it]).hk β) (sh := shT) (fun m _ => KnownOK.hook (((((KnownOK.nil.fn alive_ok).fn digitsR_ok).loop L5_8_ok L5_8_T_ok).loop L5_12_ok L5_12_T_ok).fn valueS_ok) m) (fun x => by kernel_rfl)


end Go.Proofs.YtbkdijjliabfdaaDoor

/- Law 5: whole numbers' digits. -/
namespace Go.Proofs.YtbkdijjliabfdaaDoor
open Go Go.Iv Go.Gv
set_option linter.unusedSimpArgs false
set_option linter.unusedVariables false
set_option maxRecDepth 20000

def d1 (k : Nat) : UInt8 := UInt8.ofNat (48 + k)
def dg (m : Nat) : List UInt8 := if h : m < 10 then [d1 m] else dg (m / 10) ++ [d1 (m % 10)]
termination_by m
theorem dg_s (m : Nat) (h : m < 10) : dg m = [d1 m] := by rw [dg, dif_pos h]
theorem dg_l (m : Nat) (h : 10 ≤ m) : dg m = dg (m / 10) ++ [d1 (m % 10)] := by rw [dg, dif_neg (by omega)]
theorem d1_dig (k : Nat) (h : k < 10) : dig (d1 k) = true := by
  have : k = 0 ∨ k = 1 ∨ k = 2 ∨ k = 3 ∨ k = 4 ∨ k = 5 ∨ k = 6 ∨ k = 7 ∨ k = 8 ∨ k = 9 := by omega
  rcases this with rfl | rfl | rfl | rfl | rfl | rfl | rfl | rfl | rfl | rfl <;> decide
theorem d1_48 (k : Nat) (h : k < 10) : (d1 k == 48) = Nat.beq k 0 := by
  have : k = 0 ∨ k = 1 ∨ k = 2 ∨ k = 3 ∨ k = 4 ∨ k = 5 ∨ k = 6 ∨ k = 7 ∨ k = 8 ∨ k = 9 := by omega
  rcases this with rfl | rfl | rfl | rfl | rfl | rfl | rfl | rfl | rfl | rfl <;> decide
theorem allg_app : ∀ (a b : List UInt8), allg (a ++ b) = (allg a && allg b)
  | [], b => rfl
  | c :: r, b => by
    simp only [List.cons_append, allg, allg_app r b, Bool.and_assoc]
theorem dg_ok : ∀ (m : Nat), allg (dg m) = true ∧ dg m ≠ [] ∧ (0 < m → tl (dg m) = dg m) := by
  intro m
  induction m using Nat.strongRecOn with
  | _ m ih =>
    by_cases h : m < 10
    · rw [dg_s m h]
      refine ⟨by simp only [allg, d1_dig m h, Bool.and_true], by simp, fun h0 => ?_⟩
      refine tl_id _ _ ?_
      rw [d1_48 m h]
      cases m with
      | zero => omega
      | succ => rfl
    · rw [dg_l m (by omega)]
      obtain ⟨i1, i2, i3⟩ := ih (m / 10) (by omega)
      refine ⟨by rw [allg_app, i1]; simp only [allg, d1_dig (m % 10) (by omega), Bool.and_true], by simp, fun _ => ?_⟩
      have i3 := i3 (by omega)
      cases hd : dg (m / 10) with
      | nil => exact absurd hd i2
      | cons x r => rw [hd] at i3; exact tl_id x _ (tl_head _ x r i3)
theorem digit_take (k : Nat) (h : k < 10) : List.take (k + 1 - k) (List.drop k ([(48 : UInt8), (49 : UInt8), (50 : UInt8), (51 : UInt8), (52 : UInt8), (53 : UInt8), (54 : UInt8), (55 : UInt8), (56 : UInt8), (57 : UInt8)] : List UInt8)) = [d1 k] := by
  have : k = 0 ∨ k = 1 ∨ k = 2 ∨ k = 3 ∨ k = 4 ∨ k = 5 ∨ k = 6 ∨ k = 7 ∨ k = 8 ∨ k = 9 := by omega
  rcases this with rfl | rfl | rfl | rfl | rfl | rfl | rfl | rfl | rfl | rfl <;> rfl
theorem dg_len : ∀ (d m : Nat), m < 10 ^ (d + 1) → (dg m).length ≤ d + 1 := by
  intro d
  induction d with
  | zero => intro m h; rw [dg_s m (by simpa using h)]; simp
  | succ d ih =>
    intro m h
    by_cases h10 : m < 10
    · rw [dg_s m h10]; simp
    · rw [dg_l m (by omega), List.length_append]
      have := ih (m / 10) (by rw [Nat.pow_succ] at h; omega)
      simp; omega
theorem digits_d : ∀ (d D m n : Nat), m < 10 ^ (d + 1) → d ≤ 18 → d + 1 ≤ D → d + 1 ≤ n → digitsR_d D n (m : Int) = some (dg m, ()) := by
  intro d
  induction d with
  | zero =>
    intro D m n h hd hD hn
    obtain ⟨D, rfl⟩ : ∃ k, D = k + 1 := ⟨D - 1, by omega⟩
    have h10 : m < 10 := by simpa using h
    have hle : Nat.ble 1 n = true := Nat.ble_eq_true_of_le (by omega)
    have t1 : Int.tmod (m : Int) 10 = ((m : Nat) : Int) := by rw [Int.tmod_eq_emod_of_nonneg (by omega)]; omega
    have w : IntKind.wrap .i64 ((m : Int) + 1) = ((m + 1 : Nat) : Int) := by rw [wrap_id] <;> omega
    simp only [digitsR_d, hle, cond_true, digitsR_b, t1, w, ile_t (show (0 : Int) ≤ ((m + 1 : Nat) : Int) by omega), ile_t (show ((m + 1 : Nat) : Int) ≤ 10 by omega), ile_t (show (0 : Int) ≤ (m : Int) by omega), Int.toNat_natCast, ile_t (show (m : Int) ≤ ((m + 1 : Nat) : Int) by omega), Bool.and_self,
      ilt_f (show (m : Int) ≤ 9 by omega), cond_false, digit_take m h10]
    rw [dg_s m h10]
  | succ d ih =>
    intro D m n h hd hD hn
    obtain ⟨D, rfl⟩ : ∃ k, D = k + 1 := ⟨D - 1, by omega⟩
    have hle : Nat.ble 1 n = true := Nat.ble_eq_true_of_le (by omega)
    have t1 : Int.tmod (m : Int) 10 = ((m % 10 : Nat) : Int) := by rw [Int.tmod_eq_emod_of_nonneg (by omega)]; omega
    have w : IntKind.wrap .i64 (((m % 10 : Nat) : Int) + 1) = ((m % 10 + 1 : Nat) : Int) := by rw [wrap_id] <;> omega
    have hp : (10 : Nat) ^ (d + 1 + 1) ≤ 10 ^ 19 + 10 ^ 19 := Nat.le_trans (Nat.pow_le_pow_right (by decide) (show d + 1 + 1 ≤ 19 + 1 - 1 by omega)) (by decide)
    have hmm : m / 10 < 9000000000000000000 := by
      have : m < 10 ^ 19 + 10 ^ 19 := Nat.lt_of_lt_of_le h hp
      have e : (10 : Nat) ^ 19 + 10 ^ 19 = 20000000000000000000 := by decide
      rw [e] at this; omega
    have w2 : IntKind.wrap .i64 (Int.tdiv (m : Int) 10) = ((m / 10 : Nat) : Int) := by rw [Int.tdiv_eq_ediv_of_nonneg (by omega), wrap_id] <;> omega
    rw [digitsR_d, hle, cond_true]
    simp only [digitsR_b, t1, w, w2, ile_t (show (0 : Int) ≤ ((m % 10 + 1 : Nat) : Int) by omega), ile_t (show ((m % 10 + 1 : Nat) : Int) ≤ 10 by omega), ile_t (show (0 : Int) ≤ ((m % 10 : Nat) : Int) by omega), Int.toNat_natCast, ile_t (show ((m % 10 : Nat) : Int) ≤ ((m % 10 + 1 : Nat) : Int) by omega), Bool.and_self, cond_true,
      digit_take (m % 10) (by omega)]
    by_cases h10 : m < 10
    · rw [ilt_f (show (m : Int) ≤ 9 by omega), cond_false, dg_s m h10, Nat.mod_eq_of_lt h10]
    · have hl : m / 10 < 10 ^ (d + 1) := by rw [Nat.pow_succ] at h; omega
      have hl2 := dg_len d _ hl
      rw [ilt_t (show 9 < (m : Int) by omega), cond_true, ih D (m / 10) (n - 1) hl (by omega) (by omega) (by omega), Option.bind_some, roomle (show (dg (m / 10)).length + ([d1 (m % 10)] : List UInt8).length ≤ 1000000 by simp; omega), dg_l m (by omega)]
      rfl
theorem digitsR_spec (n m : Nat) (h : m < 10000000000000000000) (hn : 30 ≤ n) : digitsR n (m : Int) = some (dg m, ()) := by
  exact digits_d 18 n m n h (by omega) (by omega) (by omega)
end Go.Proofs.YtbkdijjliabfdaaDoor

/- Law 5: whole numbers with signs and noughts. -/
namespace Go.Proofs.YtbkdijjliabfdaaDoor
open Go Go.Iv Go.Gv
set_option linter.unusedSimpArgs false
set_option linter.unusedVariables false
set_option maxRecDepth 20000

/-! ### Noughts at the end -/
def cz (m : Nat) : Nat × Nat := if h : 0 < m ∧ m % 10 = 0 then ((cz (m / 10)).1, (cz (m / 10)).2 + 1) else (m, 0)
termination_by m
theorem cz_y (m : Nat) (h : 0 < m ∧ m % 10 = 0) : cz m = ((cz (m / 10)).1, (cz (m / 10)).2 + 1) := by rw [cz, dif_pos h]
theorem cz_n (m : Nat) (h : ¬ (0 < m ∧ m % 10 = 0)) : cz m = (m, 0) := by rw [cz, dif_neg h]
theorem cz_le : ∀ (d m : Nat), m < 10 ^ d → (cz m).2 ≤ d ∧ (cz m).1 ≤ m := by
  intro d
  induction d with
  | zero => intro m h; rw [cz_n m (by simp at h; omega)]; simp
  | succ d ih =>
    intro m h
    by_cases hc : 0 < m ∧ m % 10 = 0
    · rw [cz_y m hc]
      have := ih (m / 10) (by rw [Nat.pow_succ] at h; omega)
      simp; omega
    · rw [cz_n m hc]; simp
theorem trim_dg : ∀ (m : Nat), 0 < m → trimR (dg m) = dg (cz m).1 ∧ (dg m).length = (dg (cz m).1).length + (cz m).2 := by
  intro m
  induction m using Nat.strongRecOn with
  | _ m ih =>
    intro h0
    by_cases hc : 0 < m ∧ m % 10 = 0
    · rw [cz_y m hc, dg_l m (by omega), hc.2]
      obtain ⟨i1, i2⟩ := ih (m / 10) (by omega) (by omega)
      rw [trimR_concat, show (d1 0 == 48) = true from rfl]
      refine ⟨i1, ?_⟩
      simp only [List.length_append, List.length_singleton]
      omega
    · rw [cz_n m hc]
      refine ⟨?_, rfl⟩
      by_cases h10 : m < 10
      · rw [dg_s m h10]
        have := trimR_concat [] (d1 m)
        rw [List.nil_append, d1_48 m h10] at this
        rw [this]
        cases m with
        | zero => omega
        | succ => rfl
      · rw [dg_l m (by omega), trimR_concat, d1_48 _ (by omega)]
        cases hq : m % 10 with
        | zero => exact absurd ⟨h0, hq⟩ hc
        | succ => rfl
theorem ch_hv (c : UInt8) (h : dig c = true) : ch (hv c) = c := by
  have hu := dig_ub c h
  rw [hv_ub c h]
  unfold ch
  have w : IntKind.wrap .i64 (48 + (ub c - 48)) = ub c := by rw [wrap_id] <;> omega
  rw [w, IntKind.wrap_u8]
  apply UInt8.toNat_inj.1
  rw [UInt8.toNat_ofNat']
  have := c.toNat_lt
  unfold ub at *
  omega
theorem map_ch_hv : ∀ (x : List UInt8), allg x = true → (x.map hv).map ch = x
  | [], _ => rfl
  | c :: r, h => by
    simp only [allg, Bool.and_eq_true] at h
    simp only [List.map_cons, ch_hv c h.1, map_ch_hv r h.2]
theorem allD_g : ∀ (x : List UInt8), allD 10 x = allg x
  | [] => rfl
  | c :: r => by simp only [allD, allg, okd_dig, allD_g r]
theorem tl_zeros (z : Nat) (y : List UInt8) : tl (List.replicate z 48 ++ y) = tl y := by
  induction z with
  | zero => rfl
  | succ z ih =>
    rw [List.replicate_succ, List.cons_append]
    unfold tl at ih ⊢
    rw [List.dropWhile]
    exact ih
theorem allg_zeros (z : Nat) : allg (List.replicate z 48) = true := by
  induction z with
  | zero => rfl
  | succ z ih => rw [List.replicate_succ, allg, ih]; rfl
theorem pl_digits (x : List UInt8) (h : allg x = true) (h0 : x ≠ []) (hl : x.length ≤ 5000) : pl 10 x = (bif (tl x).isEmpty then [48] else tl x, (true, ())) := by
  unfold pl
  have he : x.isEmpty = false := by
    cases x with
    | nil => exact absurd rfl h0
    | cons => rfl
  rw [he, ilt_f (show len x ≤ 5000 by unfold len; omega), allD_g, h]
  have e10 : ((10 : Int) == 10) = true := by decide
  simp only [e10, Bool.not_true, Bool.or_self, cond_false, cond_true, tx]
  rw [← List.map_reverse, List.reverse_reverse, map_ch_hv x h]
def want (b : Bool) (m : Nat) : Num := (b, (dg (cz m).1, (((cz m).2 : Int), 0)))
theorem dg_ne48 (m : Nat) (h : 0 < m) : (dg m == [48]) = false := by
  obtain ⟨h1, h2, h3⟩ := dg_ok m
  have h3 := h3 h
  cases hd : dg m with
  | nil => exact absurd hd h2
  | cons x r =>
    rw [hd] at h3
    have := tl_head _ x r h3
    show ((x == 48) && _) = false
    rw [this]; rfl
theorem dg_zero : dg 0 = [48] := dg_s 0 (by decide)
theorem cz_zero : cz 0 = (0, 0) := cz_n 0 (by omega)
theorem dg_notnil (m : Nat) : (dg m).isEmpty = false := by
  obtain ⟨h1, h2, h3⟩ := dg_ok m
  cases hd : dg m with
  | nil => exact absurd hd h2
  | cons => rfl
theorem norm_dg (b : Bool) (m : Nat) : norm b (dg m) 0 = want b m := by
  unfold norm want
  by_cases h : m = 0
  · subst h
    rw [dg_zero, cz_zero]
    show nought b = (b, (dg 0, (((0 : Nat) : Int), 0)))
    rw [dg_zero]; rfl
  · obtain ⟨h1, h2, h3⟩ := dg_ok m
    obtain ⟨t1, t2⟩ := trim_dg m (by omega)
    rw [h3 (by omega), t1, dg_notnil]
    simp only [cond_false, len]
    rw [show (0 : Int) + (((dg m).length : Nat) - ((dg (cz m).1).length : Nat)) = ((cz m).2 : Int) by omega]
theorem norm_dg3 (b : Bool) (z m : Nat) : norm b (List.replicate z 48 ++ dg m ++ [48, 48, 48]) (-3) = want b m := by
  unfold norm want
  rw [List.append_assoc, tl_zeros]
  by_cases h : m = 0
  · subst h
    rw [dg_zero, cz_zero]
    show nought b = (b, (dg 0, (((0 : Nat) : Int), 0)))
    rw [dg_zero]; rfl
  · obtain ⟨h1, h2, h3⟩ := dg_ok m
    obtain ⟨t1, t2⟩ := trim_dg m (by omega)
    have h3 := h3 (by omega)
    have e : tl (dg m ++ [48, 48, 48]) = dg m ++ [48, 48, 48] := by
      cases hd : dg m with
      | nil => exact absurd hd h2
      | cons x r => rw [hd] at h3; exact tl_id x _ (tl_head _ x r h3)
    have e2 : trimR (dg m ++ [48, 48, 48]) = dg (cz m).1 := by
      rw [show dg m ++ [48, 48, 48] = dg m ++ [48] ++ [48] ++ [48] by simp, trimR_concat, trimR_concat, trimR_concat, t1]
      rfl
    rw [e, e2, dg_notnil]
    simp only [cond_false, len, List.length_append, List.length_cons, List.length_nil]
    rw [show (-3 : Int) + (((dg m).length + (0 + 1 + 1 + 1) : Nat) - ((dg (cz m).1).length : Nat)) = ((cz m).2 : Int) by omega]
def isPf (pf : List UInt8) (b : Bool) : Prop := (pf = [45] ∧ b = true) ∨ (pf = [43] ∧ b = false) ∨ (pf = [] ∧ b = false)
theorem dig_not (c : UInt8) (h : dig c = true) (k : UInt8) (hk : dig k = false) : (c == k) = false := by
  rw [beq_eq_false_iff_ne]; intro e; rw [e, hk] at h; cases h
theorem sgn_pf (pf : List UInt8) (b : Bool) (hp : isPf pf b) (c : UInt8) (r : List UInt8) (h : dig c = true) : sgn (pf ++ c :: r) = (c :: r, b) := by
  rcases hp with ⟨rfl, rfl⟩ | ⟨rfl, rfl⟩ | ⟨rfl, rfl⟩
  · rfl
  · rfl
  · show sgn (c :: r) = _
    simp only [sgn, dig_not c h 45 (by decide), dig_not c h 43 (by decide), cond_false]
theorem pre_pf (pf : List UInt8) (b : Bool) (hp : isPf pf b) (k : UInt8) (hk : dig k = false) (x : List UInt8) (h : allg x = true) : pre [48, k] (pf ++ x) = false := by
  rcases hp with ⟨rfl, rfl⟩ | ⟨rfl, rfl⟩ | ⟨rfl, rfl⟩
  · rfl
  · rfl
  · match x, h with
    | [], _ => rfl
    | [c], _ => simp [pre]
    | c :: d :: r, h =>
      simp only [allg, Bool.and_eq_true] at h
      simp only [List.nil_append, pre, dig_not d h.2.1 k hk, Bool.false_and, Bool.and_false]
theorem iv_int (pf : List UInt8) (b : Bool) (hp : isPf pf b) (z m : Nat) (hz : z ≤ 50) (hm : m < 10 ^ 19) (hb : m = 0 → b = false) : iv (pf ++ (List.replicate z 48 ++ dg m)) = (want b m, (true, ())) := by
  obtain ⟨h1, h2, h3⟩ := dg_ok m
  have hg : allg (List.replicate z 48 ++ dg m) = true := by rw [allg_app, allg_zeros, h1]; rfl
  have hl := dg_len 18 m hm
  have hne : List.replicate z 48 ++ dg m ≠ [] := by simp [h2]
  have hlen : (List.replicate z 48 ++ dg m).length ≤ 5000 := by simp; omega
  have hpl := pl_digits _ hg hne hlen
  rw [tl_zeros] at hpl
  unfold iv
  rw [pre_pf pf b hp 111 (by decide) _ hg, pre_pf pf b hp 120 (by decide) _ hg, cond_false, cond_false]
  have hs : sgn (pf ++ (List.replicate z 48 ++ dg m)) = (List.replicate z 48 ++ dg m, b) := by
    cases hx : List.replicate z 48 ++ dg m with
    | nil => exact absurd hx hne
    | cons c r =>
      rw [hx, allg, Bool.and_eq_true] at hg
      exact sgn_pf pf b hp c r hg.1
  rw [hs]
  simp only []
  rw [hpl]
  unfold fin
  simp only [cond_true]
  by_cases h0 : m = 0
  · subst h0
    rw [hb rfl, dg_zero]
    show (norm false [48] 0, (true, ())) = _
    rw [← dg_zero, norm_dg]
  · rw [h3 (by omega), dg_notnil, cond_false, dg_ne48 m (by omega), Bool.not_false, Bool.and_true, norm_dg]
theorem run_stop : ∀ (x : List UInt8) (k : UInt8) (r : List UInt8), allg x = true → dig k = false → run (x ++ k :: r) = x
  | [], k, r, _, hk => by unfold run; simp only [List.nil_append, List.takeWhile, hk]
  | c :: x, k, r, h, hk => by
    simp only [allg, Bool.and_eq_true] at h
    have := run_stop x k r h.2 hk
    unfold run at this ⊢
    simp only [List.cons_append, List.takeWhile, h.1, this]
theorem fl_int (pf : List UInt8) (b : Bool) (hp : isPf pf b) (z m : Nat) (hz : z ≤ 50) (hm : m < 10 ^ 19) : fl (pf ++ (List.replicate z 48 ++ dg m) ++ [46, 48, 48, 48, 101, 48]) = (want b m, (true, ())) := by
  obtain ⟨h1, h2, h3⟩ := dg_ok m
  have hg : allg (List.replicate z 48 ++ dg m) = true := by rw [allg_app, allg_zeros, h1]; rfl
  have hl := dg_len 18 m hm
  have hne : List.replicate z 48 ++ dg m ≠ [] := by simp [h2]
  have hlen : (List.replicate z 48 ++ dg m).length ≤ 4000 := by simp; omega
  have hn3 := norm_dg3 b z m
  rw [List.append_assoc pf]
  generalize hx : List.replicate z 48 ++ dg m = x at *
  cases x with
  | nil => exact absurd rfl hne
  | cons c r =>
    have hc : dig c = true := by rw [allg, Bool.and_eq_true] at hg; exact hg.1
    have hs : sgn (pf ++ ((c :: r) ++ [46, 48, 48, 48, 101, 48])) = ((c :: r) ++ [46, 48, 48, 48, 101, 48], b) := sgn_pf pf b hp c _ hc
    have n46 := dig_not c hc 46 (by decide)
    have hnan : isNan (pf ++ ((c :: r) ++ [46, 48, 48, 48, 101, 48])) = false := by
      have : ∀ (a d e : UInt8), ((pf ++ ((c :: r) ++ [46, 48, 48, 48, 101, 48])) == [46, a, d, e]) = false := fun a d e => by
        rcases hp with ⟨rfl, rfl⟩ | ⟨rfl, rfl⟩ | ⟨rfl, rfl⟩
        · rfl
        · rfl
        · show ((c == 46) && _) = false
          rw [n46]; rfl
      unfold isNan
      rw [this, this, this]; rfl
    have hinf : isInf ((c :: r) ++ [46, 48, 48, 48, 101, 48]) = false := by
      have : ∀ (a d e : UInt8), (((c :: r) ++ [46, 48, 48, 48, 101, 48]) == [46, a, d, e]) = false := fun a d e => by
        show ((c == 46) && _) = false
        rw [n46]; rfl
      unfold isInf
      rw [this, this, this]; rfl
    unfold fl
    rw [hnan, cond_false, hs]
    simp only []
    rw [hinf, cond_false]
    have hr : run ((c :: r) ++ [46, 48, 48, 48, 101, 48]) = c :: r := run_stop (c :: r) 46 _ hg (by decide)
    unfold num
    rw [hr, List.drop_left, ← List.drop_drop, List.drop_left]
    rw [show pre [46] [46, 48, 48, 48, 101, 48] = true from rfl, cond_true, show run (List.drop 1 [46, 48, 48, 48, 101, 48]) = [48, 48, 48] from rfl, ← List.drop_drop, ← List.drop_drop, List.drop_left]
    show (tail (c :: r) [48, 48, 48] [101, 48] b) = _
    unfold tail
    rw [show ex [101, 48] = (0, true) from by decide]
    have hle : ilt 5000 (len (c :: r) + len ([48, 48, 48] : List UInt8)) = false := ilt_f (by unfold len; simp only [List.length_cons, List.length_nil] at hlen ⊢; omega)
    rw [hle]
    simp only [Bool.not_true, Bool.false_or, List.isEmpty_cons, Bool.false_and, Bool.or_self, cond_false]
    show (norm b ((c :: r) ++ [48, 48, 48]) (-3), (true, ())) = _
    rw [hn3]
end Go.Proofs.YtbkdijjliabfdaaDoor

/- Law 19: whole numbers in tens, eights and sixteens. -/
namespace Go.Proofs.YtbkdijjliabfdaaDoor
open Go Go.Iv Go.Gv Go.RowKit Go.ChangeShapes Go.WideShapes
set_option linter.unusedSimpArgs false
set_option linter.unusedVariables false
set_option maxRecDepth 20000

/-! ### What digits are worth -/
def nv : List Int → Int
  | [] => 0
  | x :: r => x + 10 * nv r
theorem nv_app : ∀ (a b : List Int), nv (a ++ b) = nv a + 10 ^ a.length * nv b
  | [], b => by simp [nv]
  | x :: r, b => by
    have ih := nv_app r b
    simp only [List.cons_append, nv, ih, List.length_cons, Int.pow_succ, Int.mul_add]
    rw [← Int.mul_assoc, Int.mul_comm 10 (10 ^ r.length), Int.add_assoc]
theorem nv_nonneg : ∀ (l : List Int), Dg l → 0 ≤ nv l
  | [], _ => by simp [nv]
  | x :: r, h => by
    have h1 := h.head
    have h2 := nv_nonneg r h.tail
    simp only [nv]; omega
theorem nv_mulA (k : Int) : ∀ (l : List Int) (m : Int), nv (mulA k l m).1 + 10 ^ l.length * (mulA k l m).2 = nv l * k + m
  | [], m => by simp [mulA, nv]
  | x :: r, m => by
    have ih := nv_mulA k r ((m + x * k) / 10)
    simp only [mulA, nv, List.length_cons, Int.pow_succ]
    have h1 : (10 : Int) ^ r.length * 10 * (mulA k r ((m + x * k) / 10)).2 = 10 * (10 ^ r.length * (mulA k r ((m + x * k) / 10)).2) := by
      rw [Int.mul_comm (10 ^ r.length) 10, Int.mul_assoc]
    rw [h1, Int.add_assoc, ← Int.mul_add, ih, Int.mul_add, Int.add_mul, Int.mul_assoc 10]
    have := Int.emod_add_mul_ediv (m + x * k) 10
    omega
theorem nv_carry (m : Int) (h0 : 0 ≤ m) (h1 : m ≤ 15) : nv (carry m) = m := by
  unfold carry
  split
  · rename_i h; subst h; rfl
  · split
    · simp only [nv]; omega
    · simp only [nv]; omega
theorem nv_mul (k : Int) (hk : 0 ≤ k ∧ k ≤ 16) (l : List Int) (m : Int) (hl : Dg l) (hm : 0 ≤ m ∧ m ≤ 15) : nv (mul k l m) = nv l * k + m := by
  obtain ⟨h1, h2, h3⟩ := mulA_ok k hk l m hl hm
  unfold mul
  rw [nv_app, nv_carry _ h2.1 h2.2, h3, nv_mulA]
def hval (k : Int) : Int → List UInt8 → Int
  | a, [] => a
  | a, c :: r => hval k (a * k + hv c) r
theorem hval_app (k : Int) : ∀ (x : List UInt8) (a : Int) (c : UInt8), hval k a (x ++ [c]) = hval k a x * k + hv c
  | [], a, c => rfl
  | y :: r, a, c => by simp only [List.cons_append, hval]; exact hval_app k r _ c
theorem nv_fold (k : Int) (hk : 0 ≤ k ∧ k ≤ 16) : ∀ (s : List UInt8) (l : List Int), Dg l → allD k s = true → nv (fold k l s) = hval k (nv l) s
  | [], l, _, _ => rfl
  | c :: r, l, hl, ha => by
    simp only [allD, Bool.and_eq_true] at ha
    have hc := okd_le hk.2 ha.1
    simp only [fold, hval]
    rw [nv_fold k hk r _ (mul_ok k hk l _ hl hc).1 ha.2, nv_mul k hk l _ hl hc]

theorem ch_d1 (x : Int) (h : 0 ≤ x ∧ x ≤ 9) : ch x = d1 x.toNat := by
  unfold ch d1
  have w1 : IntKind.wrap .i64 (48 + x) = 48 + x := by rw [wrap_id] <;> omega
  have w2 : IntKind.wrap .u8 (48 + x) = 48 + x := by rw [IntKind.wrap_u8]; omega
  rw [w1, w2, show (48 + x).toNat = 48 + x.toNat by omega]
theorem tl_snoc (A : List UInt8) (c : UInt8) : tl (A ++ [c]) = bif (tl A).isEmpty then tl [c] else tl A ++ [c] := by
  unfold tl
  induction A with
  | nil => rfl
  | cons a r ih =>
    rw [List.cons_append, List.dropWhile_cons, List.dropWhile_cons]
    cases a == 48 with
    | true => simpa using ih
    | false => rfl
theorem tl_nv : ∀ (l : List Int), Dg l → tl (l.reverse.map ch) = if nv l = 0 then [] else dg (nv l).toNat
  | [], _ => rfl
  | x :: r, h => by
    have ih := tl_nv r h.tail
    have hx := h.head
    have hr := nv_nonneg r h.tail
    rw [List.reverse_cons, List.map_append, List.map_cons, List.map_nil, tl_snoc, ih]
    have en : nv (x :: r) = x + 10 * nv r := rfl
    rw [en]
    by_cases h0 : nv r = 0
    · rw [if_pos h0, h0]
      simp only [List.isEmpty_nil, cond_true]
      unfold tl
      rw [List.dropWhile_cons, ch_dig x hx]
      by_cases hx0 : x = 0
      · subst hx0; rfl
      · have : (x == 0) = false := by simpa using hx0
        rw [this, if_neg (by simp), if_neg (by omega), show (x + 10 * 0).toNat = x.toNat by omega, dg_s _ (by omega), ch_d1 x hx]
    · rw [if_neg h0, if_neg (by omega)]
      have hne := dg_notnil (nv r).toNat
      rw [hne, cond_false, dg_l (x + 10 * nv r).toNat (by omega), show (x + 10 * nv r).toNat / 10 = (nv r).toNat by omega, show (x + 10 * nv r).toNat % 10 = x.toNat by omega, ch_d1 x hx]
theorem tx_nv (l : List Int) (h : Dg l) : tx l = dg (nv l).toNat := by
  unfold tx
  rw [tl_nv l h]
  by_cases h0 : nv l = 0
  · rw [if_pos h0, h0]; exact dg_zero.symm
  · rw [if_neg h0, dg_notnil]; rfl

/-! ### Digits of a base -/
def hx (d : Nat) : UInt8 := if d < 10 then UInt8.ofNat (48 + d) else UInt8.ofNat (87 + d)
def bd (k m : Nat) : List UInt8 := if h : 2 ≤ k ∧ k ≤ m then bd k (m / k) ++ [hx (m % k)] else [hx m]
termination_by m
decreasing_by exact Nat.div_lt_self (by omega) (by omega)
theorem bd_s (k m : Nat) (h : m < k) : bd k m = [hx m] := by rw [bd, dif_neg (by omega)]
theorem bd_l (k m : Nat) (h2 : 2 ≤ k) (h : k ≤ m) : bd k m = bd k (m / k) ++ [hx (m % k)] := by rw [bd, dif_pos ⟨h2, h⟩]
theorem hv_hx : ∀ d : Fin 16, hv (hx d.val) = (d.val : Int) := by decide +kernel
theorem hv_hx' (d : Nat) (h : d < 16) : hv (hx d) = (d : Int) := hv_hx ⟨d, h⟩
theorem bd_val (k : Nat) (h2 : 2 ≤ k) (h16 : k ≤ 16) : ∀ (j m : Nat), m < k ^ (j + 1) → hval k 0 (bd k m) = m ∧ allD k (bd k m) = true ∧ (bd k m).length ≤ j + 1 ∧ (bd k m).isEmpty = false := by
  have okx : ∀ d, d < k → okd k (hx d) = true := fun d hd => by
    unfold okd
    rw [hv_hx' d (by omega)]
    exact decide_eq_true ⟨by omega, by omega⟩
  have all_app : ∀ (a b : List UInt8), allD k (a ++ b) = (allD k a && allD k b) := by
    intro a
    induction a with
    | nil => intro b; rfl
    | cons x r ih => intro b; simp only [List.cons_append, allD, ih, Bool.and_assoc]
  intro j
  induction j with
  | zero =>
    intro m hm
    have hm' : m < k := by simpa using hm
    rw [bd_s k m hm']
    refine ⟨?_, ?_, by simp, rfl⟩
    · simp only [hval, hv_hx' m (by omega)]; omega
    · simp only [allD, okx m hm', Bool.and_self]
  | succ j ih =>
    intro m hm
    by_cases hm' : m < k
    · rw [bd_s k m hm']
      refine ⟨?_, ?_, by simp, rfl⟩
      · simp only [hval, hv_hx' m (by omega)]; omega
      · simp only [allD, okx m hm', Bool.and_self]
    · have hd : m / k < k ^ (j + 1) := by
        rw [Nat.div_lt_iff_lt_mul (by omega)]
        rw [Nat.pow_succ] at hm; exact hm
      obtain ⟨a1, a2, a3, a4⟩ := ih (m / k) hd
      have hmod : m % k < k := Nat.mod_lt _ (by omega)
      rw [bd_l k m h2 (by omega)]
      refine ⟨?_, ?_, by rw [List.length_append]; simp; omega, by cases bd k (m / k) <;> rfl⟩
      · rw [hval_app, a1, hv_hx' _ (by omega)]
        have := Nat.div_add_mod m k
        rw [Nat.mul_comm] at this
        have h3 : ((m / k * k + m % k : Nat) : Int) = m := by rw [this]
        simpa using h3
      · rw [all_app, a2]
        simp only [allD, okx _ hmod, Bool.and_self]
theorem pl_bd (k : Nat) (hk : k = 8 ∨ k = 16) (m : Nat) (hm : m < 9223372036854775808) : pl k (bd k m) = (dg m, (true, ())) := by
  have hb := bd_val k (by omega) (by omega) 62 m (by
    show m < k ^ 63
    have : 2 ^ 63 ≤ k ^ 63 := Nat.pow_le_pow_left (by omega) 63
    have h2 : (2 : Nat) ^ 63 = 9223372036854775808 := by decide
    omega)
  obtain ⟨b1, b2, b3, b4⟩ := hb
  have hne : (((k : Nat) : Int) == 10) = false := by rcases hk with rfl | rfl <;> rfl
  unfold pl
  rw [b4, b2, hne, ilt_f (show len (bd k m) ≤ 5000 by unfold len; omega)]
  simp only [Bool.not_true, Bool.or_self, cond_false]
  have hkk : (0 : Int) ≤ (k : Int) ∧ (k : Int) ≤ 16 := by omega
  rw [tx_nv _ (fold_ok k hkk (bd k m) [] Dg.nil b2).1, nv_fold k hkk _ _ Dg.nil b2]
  have : nv [] = 0 := rfl
  rw [this, b1, Int.toNat_natCast]

theorem iv_oct (m : Nat) (hm : m < 9223372036854775808) : iv ([48, 111] ++ bd 8 m) = (want false m, (true, ())) := by
  unfold iv
  have h1 : pre [48, 111] ([48, 111] ++ bd 8 m) = true := rfl
  have hd : (([48, 111] : List UInt8) ++ bd 8 m).drop 2 = bd 8 m := rfl
  rw [h1, cond_true, hd]
  have := pl_bd 8 (.inl rfl) m hm
  rw [show ((8 : Nat) : Int) = 8 from rfl] at this
  unfold fin
  rw [this]
  simp only [cond_true, Bool.false_and]
  rw [norm_dg]
theorem iv_hex (m : Nat) (hm : m < 9223372036854775808) : iv ([48, 120] ++ bd 16 m) = (want false m, (true, ())) := by
  unfold iv
  have h1 : pre [48, 111] ([48, 120] ++ bd 16 m) = false := rfl
  have h2 : pre [48, 120] ([48, 120] ++ bd 16 m) = true := rfl
  have hd : (([48, 120] : List UInt8) ++ bd 16 m).drop 2 = bd 16 m := rfl
  rw [h1, h2, cond_false, cond_true, hd]
  have := pl_bd 16 (.inr rfl) m hm
  rw [show ((16 : Nat) : Int) = 16 from rfl] at this
  unfold fin
  rw [this]
  simp only [cond_true, Bool.false_and]
  rw [norm_dg]

/-! ### The loops that write them -/
theorem oct_take : ∀ d : Fin 8, List.take (d.val + 1 - d.val) (List.drop d.val ([(48 : UInt8), (49 : UInt8), (50 : UInt8), (51 : UInt8), (52 : UInt8), (53 : UInt8), (54 : UInt8), (55 : UInt8)] : List UInt8)) = [hx d.val] := by decide +kernel
theorem hex_take : ∀ d : Fin 16, List.take (d.val + 1 - d.val) (List.drop d.val ([(48 : UInt8), (49 : UInt8), (50 : UInt8), (51 : UInt8), (52 : UInt8), (53 : UInt8), (54 : UInt8), (55 : UInt8), (56 : UInt8), (57 : UInt8), (97 : UInt8), (98 : UInt8), (99 : UInt8), (100 : UInt8), (101 : UInt8), (102 : UInt8)] : List UInt8)) = [hx d.val] := by decide +kernel
theorem and7 (m : Nat) (hm : m < 9223372036854775808) : andI .i64 (m : Int) 7 = ((m % 8 : Nat) : Int) := by
  have := andI_i64 3 (by decide) (m : Int) (by omega) (by show (m : Int) < 9223372036854775808; omega)
  rw [show ((2 : Int) ^ 3 - 1) = 7 from rfl, show ((2 : Int) ^ 3) = 8 from rfl] at this
  rw [this]; omega
theorem and15 (m : Nat) (hm : m < 9223372036854775808) : andI .i64 (m : Int) 15 = ((m % 16 : Nat) : Int) := by
  have := andI_i64 4 (by decide) (m : Int) (by omega) (by show (m : Int) < 9223372036854775808; omega)
  rw [show ((2 : Int) ^ 4 - 1) = 15 from rfl, show ((2 : Int) ^ 4) = 16 from rfl] at this
  rw [this]; omega
theorem shr3 (m : Nat) : shrI .i64 (m : Int) 3 = ((m / 8 : Nat) : Int) := by
  rw [shrI_i64 _ 3 (by decide), show ((2 : Int) ^ 3) = 8 from rfl]; omega
theorem shr4 (m : Nat) : shrI .i64 (m : Int) 4 = ((m / 16 : Nat) : Int) := by
  rw [shrI_i64 _ 4 (by decide), show ((2 : Int) ^ 4) = 16 from rfl]; omega

theorem oct_loop (t0 : Int) (t1 : Bool) (t6 t8 : List UInt8) : ∀ (j m n : Nat) (acc : List UInt8), m < 8 ^ j → m < 9223372036854775808 → (0 < m ∨ acc = []) → acc.length + j ≤ 1000 → j + 2 ≤ n →
    L5_8 n t0 t1 t6 acc t8 (m : Int) = some ((t0, (t1, (t6, (bd 8 m ++ acc, (t8, ()))))), ()) := by
  have stop : ∀ (n : Nat) (c : UInt8) (acc : List UInt8), L5_8 (n + 1) t0 t1 t6 (c :: acc) t8 ((0 : Nat) : Int) = some ((t0, (t1, (t6, (c :: acc, (t8, ()))))), ()) := fun n c acc => rfl
  intro j
  induction j with
  | zero =>
    intro m n acc hm _ hacc hl hn
    obtain ⟨n, rfl⟩ : ∃ q, n = q + 2 := ⟨n - 2, by omega⟩
    have : m = 0 := by simpa using hm
    subst this
    have ha := hacc.resolve_left (by omega)
    subst ha
    have h0 := oct_take 0
    show L5_8 (n + 1 + 1) t0 t1 t6 [] t8 ((0 : Nat) : Int) = _
    rw [bd_s 8 0 (by decide)]
    exact stop n (hx 0) []
  | succ j ih =>
    intro m n acc hm hm2 hacc hl hn
    obtain ⟨n, rfl⟩ : ∃ q, n = q + 1 := ⟨n - 1, by omega⟩
    have hc : (bif ilt (0 : Int) (m : Int) then some Bool.true else some (acc == ([] : List UInt8))) = some true := by
      rcases hacc with h | h
      · rw [ilt_t (by omega)]; rfl
      · subst h; cases ilt (0 : Int) (m : Int) <;> rfl
    have hlt : m % 8 < 8 := Nat.mod_lt _ (by decide)
    have w : IntKind.wrap .i64 (((m % 8 : Nat) : Int) + 1) = ((m % 8 + 1 : Nat) : Int) := by rw [wrap_id] <;> omega
    have ht := oct_take ⟨m % 8, hlt⟩
    simp only at ht
    simp only [L5_8, hc, Option.bind_some, cond_true, and7 m hm2, w, Int.toNat_natCast, ht, shr3]
    rw [ile_t (show (0 : Int) ≤ ((m % 8 + 1 : Nat) : Int) by omega), ile_t (show ((m % 8 + 1 : Nat) : Int) ≤ 8 by omega), ile_t (show (0 : Int) ≤ ((m % 8 : Nat) : Int) by omega), ile_t (show ((m % 8 : Nat) : Int) ≤ ((m % 8 + 1 : Nat) : Int) by omega),
      roomle (show ([hx (m % 8)] : List UInt8).length + acc.length ≤ 1000000 by simp; omega)]
    simp only [Bool.and_self, cond_true]
    by_cases h8 : m < 8
    · have h0 : m / 8 = 0 := by omega
      obtain ⟨n, rfl⟩ : ∃ q, n = q + 1 := ⟨n - 1, by omega⟩
      rw [h0, bd_s 8 m h8, Nat.mod_eq_of_lt h8]
      exact stop n _ _
    · rw [ih (m / 8) n ([hx (m % 8)] ++ acc) (by rw [Nat.pow_succ] at hm; omega) (by omega) (.inl (by omega)) (by simp; omega) (by omega), bd_l 8 m (by decide) (by omega), List.append_assoc]
theorem hex_loop (t0 : Int) (t1 : Bool) (t6 t7 : List UInt8) : ∀ (j m n : Nat) (acc : List UInt8), m < 16 ^ j → m < 9223372036854775808 → (0 < m ∨ acc = []) → acc.length + j ≤ 1000 → j + 2 ≤ n →
    L5_12 n t0 t1 t6 t7 acc (m : Int) = some ((t0, (t1, (t6, (t7, (bd 16 m ++ acc, ()))))), ()) := by
  have stop : ∀ (n : Nat) (c : UInt8) (acc : List UInt8), L5_12 (n + 1) t0 t1 t6 t7 (c :: acc) ((0 : Nat) : Int) = some ((t0, (t1, (t6, (t7, (c :: acc, ()))))), ()) := fun n c acc => rfl
  intro j
  induction j with
  | zero =>
    intro m n acc hm _ hacc hl hn
    obtain ⟨n, rfl⟩ : ∃ q, n = q + 2 := ⟨n - 2, by omega⟩
    have : m = 0 := by simpa using hm
    subst this
    have ha := hacc.resolve_left (by omega)
    subst ha
    show L5_12 (n + 1 + 1) t0 t1 t6 t7 [] ((0 : Nat) : Int) = _
    rw [bd_s 16 0 (by decide)]
    exact stop n (hx 0) []
  | succ j ih =>
    intro m n acc hm hm2 hacc hl hn
    obtain ⟨n, rfl⟩ : ∃ q, n = q + 1 := ⟨n - 1, by omega⟩
    have hc : (bif ilt (0 : Int) (m : Int) then some Bool.true else some (acc == ([] : List UInt8))) = some true := by
      rcases hacc with h | h
      · rw [ilt_t (by omega)]; rfl
      · subst h; cases ilt (0 : Int) (m : Int) <;> rfl
    have hlt : m % 16 < 16 := Nat.mod_lt _ (by decide)
    have w : IntKind.wrap .i64 (((m % 16 : Nat) : Int) + 1) = ((m % 16 + 1 : Nat) : Int) := by rw [wrap_id] <;> omega
    have ht := hex_take ⟨m % 16, hlt⟩
    simp only at ht
    simp only [L5_12, hc, Option.bind_some, cond_true, and15 m hm2, w, Int.toNat_natCast, ht, shr4]
    rw [ile_t (show (0 : Int) ≤ ((m % 16 + 1 : Nat) : Int) by omega), ile_t (show ((m % 16 + 1 : Nat) : Int) ≤ 16 by omega), ile_t (show (0 : Int) ≤ ((m % 16 : Nat) : Int) by omega), ile_t (show ((m % 16 : Nat) : Int) ≤ ((m % 16 + 1 : Nat) : Int) by omega),
      roomle (show ([hx (m % 16)] : List UInt8).length + acc.length ≤ 1000000 by simp; omega)]
    simp only [Bool.and_self, cond_true]
    by_cases h8 : m < 16
    · have h0 : m / 16 = 0 := by omega
      obtain ⟨n, rfl⟩ : ∃ q, n = q + 1 := ⟨n - 1, by omega⟩
      rw [h0, bd_s 16 m h8, Nat.mod_eq_of_lt h8]
      exact stop n _ _
    · rw [ih (m / 16) n ([hx (m % 16)] ++ acc) (by rw [Nat.pow_succ] at hm; omega) (by omega) (.inl (by omega)) (by simp; omega) (by omega), bd_l 16 m (by decide) (by omega), List.append_assoc]

/-! ### The values -/
theorem fl_dg (pf : List UInt8) (b : Bool) (hp : isPf pf b) (m : Nat) (hm : m < 10 ^ 19) : fl (pf ++ dg m) = (want b m, (true, ())) := by
  obtain ⟨g1, g2, _⟩ := dg_ok m
  have hl := dg_len 18 m hm
  have hnorm := norm_dg b m
  generalize dg m = d at g1 g2 hl hnorm ⊢
  cases d with
  | nil => exact absurd rfl g2
  | cons c q =>
    have hd' := g1
    rw [allg, Bool.and_eq_true] at hd'
    have hdc := hd'.1
    have hs : sgn (pf ++ c :: q) = (c :: q, b) := sgn_pf pf b hp c q hdc
    have n46 := dig_not c hdc 46 (by decide)
    have hnan : isNan (pf ++ c :: q) = false := by
      have ne : ∀ l : List UInt8, (pf ++ c :: q == 46 :: l) = false := fun l => by
        cases hb : (pf ++ c :: q == 46 :: l) with
        | false => rfl
        | true =>
          have e : pf ++ c :: q = 46 :: l := by simpa using hb
          rcases hp with ⟨rfl, _⟩ | ⟨rfl, _⟩ | ⟨rfl, _⟩
          · cases e
          · cases e
          · cases e; simp at n46
      unfold isNan
      simp only [ne, Bool.or_self]
    have hinf : isInf (c :: q) = false := by
      have ne : ∀ l : List UInt8, (c :: q == 46 :: l) = false := fun l => by
        cases hb : (c :: q == 46 :: l) with
        | false => rfl
        | true =>
          have e : c :: q = 46 :: l := by simpa using hb
          cases e; simp at n46
      unfold isInf
      simp only [ne, Bool.or_self]
    unfold fl
    rw [hs, hnan, hinf]
    simp only [cond_false]
    unfold num
    rw [run_id _ g1, List.drop_length]
    have hp2 : pre [46] ([] : List UInt8) = false := rfl
    rw [hp2, cond_false]
    unfold tail
    have e1 : (ex []).2 = true := rfl
    have e2 : (ex []).1 = 0 := rfl
    have e3 : (c :: q).isEmpty = false := rfl
    rw [e1, e2, e3, ilt_f (show len (c :: q) + len ([] : List UInt8) ≤ 5000 by unfold len; simp only [List.length_nil]; omega), List.append_nil, show ((0 : Int) - len ([] : List UInt8)) = 0 from rfl, hnorm]
    rfl
theorem val_int (s : List UInt8) (x : Num) (h : iv s = (x, (true, ()))) : val (yml ++ sInt) s = ((3, (false, (x, []))), 0, ()) := by
  have : val (yml ++ sInt) s = bif (iv s).2.1 then ((3, (false, ((iv s).1, []))), 0, ()) else noV := rfl
  rw [this, h]; rfl
theorem val_fl (s : List UInt8) (x : Num) (h : fl s = (x, (true, ()))) : val (yml ++ sFloat) s = ((4, (false, (x, []))), 0, ()) := by
  have : val (yml ++ sFloat) s = bif (fl s).2.1 then ((4, (false, ((fl s).1, []))), 0, ()) else bif (iv s).2.1 then ((4, (false, ((iv s).1, []))), 0, ()) else noV := rfl
  rw [this, h]; rfl

theorem iv_pf (pf : List UInt8) (b : Bool) (hp : isPf pf b) (m : Nat) (hm : m < 10 ^ 19) (hb : m = 0 → b = false) : iv (pf ++ dg m) = (want b m, (true, ())) := by
  have := iv_int pf b hp 0 m (by decide) hm hb
  simpa using this
theorem iv_neg0 : iv ([45] ++ dg 0) = (want false 0, (true, ())) := by
  have : want false 0 = (false, ([48], (0, 0))) := by
    unfold want; rw [cz_zero, dg_zero]; rfl
  rw [this, dg_zero]; rfl

theorem ints_rest (n : Nat) (hn : 20000 ≤ n) (m : Nat) (hm : m < 9223372036854775808) (below : Bool) : schemaInts n (m : Int) below = some (true, ()) := by
  have hm19 : m < 10 ^ 19 := Nat.lt_of_lt_of_le hm (by decide)
  have p8 : m < 8 ^ 21 := Nat.lt_of_lt_of_le hm (by decide)
  have p16 : m < 16 ^ 16 := Nat.lt_of_lt_of_le hm (by decide)
  have o2 := (bd_val 8 (by decide) (by decide) 20 m p8).2.2.1
  have x2 := (bd_val 16 (by decide) (by decide) 15 m p16).2.2.1
  have d2 := dg_len 18 m hm19
  unfold schemaInts
  rw [alive_spec n hn, Option.bind_some]
  simp only [Bool.not_true, cond_false, Option.bind_some]
  rw [ilt_f (show (0 : Int) ≤ (m : Int) by omega), cond_false, digitsR_spec (n + 10) m hm19 (by omega), Option.bind_some,
    oct_loop _ _ _ _ 21 m (n + 11) [] p8 hm (.inr rfl) (by simp) (by omega), Option.bind_some]
  simp only [List.append_nil]
  rw [hex_loop _ _ _ _ 16 m (n + 11) [] p16 hm (.inr rfl) (by simp) (by omega), Option.bind_some]
  simp only [List.append_nil]
  have hTI : ([(116 : UInt8), (97 : UInt8), (103 : UInt8), (58 : UInt8), (121 : UInt8), (97 : UInt8), (109 : UInt8), (108 : UInt8), (46 : UInt8), (111 : UInt8), (114 : UInt8), (103 : UInt8), (44 : UInt8), (50 : UInt8), (48 : UInt8), (48 : UInt8), (50 : UInt8), (58 : UInt8), (105 : UInt8), (110 : UInt8), (116 : UInt8)] : List UInt8) = yml ++ sInt := rfl
  have hTF : ([(116 : UInt8), (97 : UInt8), (103 : UInt8), (58 : UInt8), (121 : UInt8), (97 : UInt8), (109 : UInt8), (108 : UInt8), (46 : UInt8), (111 : UInt8), (114 : UInt8), (103 : UInt8), (44 : UInt8), (50 : UInt8), (48 : UInt8), (48 : UInt8), (50 : UInt8), (58 : UInt8), (102 : UInt8), (108 : UInt8), (111 : UInt8), (97 : UInt8), (116 : UInt8)] : List UInt8) = yml ++ sFloat := rfl
  rw [hTI, hTF]
  have v1 : valueS (n + 1) (yml ++ sInt) (dg m) = some ((3, (false, (want false m, []))), 0, ()) := by
    have h := iv_pf [] false (.inr (.inr ⟨rfl, rfl⟩)) m hm19 (fun _ => rfl)
    rw [List.nil_append] at h
    rw [valueS_spec (n + 1) _ _ (by omega) (by omega), val_int _ _ h]
  have v2 : valueS (n + 1) (yml ++ sInt) ([(48 : UInt8), (111 : UInt8)] ++ bd 8 m) = some ((3, (false, (want false m, []))), 0, ()) := by
    rw [valueS_spec (n + 1) _ _ (by simp; omega) (by omega), val_int _ _ (iv_oct m hm)]
  have v3 : valueS (n + 1) (yml ++ sInt) ([(48 : UInt8), (120 : UInt8)] ++ bd 16 m) = some ((3, (false, (want false m, []))), 0, ()) := by
    rw [valueS_spec (n + 1) _ _ (by simp; omega) (by omega), val_int _ _ (iv_hex m hm)]
  rw [v1, v2, v3]
  simp only [Option.bind_some]
  rw [roomle (show ([(48 : UInt8), (111 : UInt8)] : List UInt8).length + (bd 8 m).length ≤ 1000000 by simp; omega), roomle (show ([(48 : UInt8), (120 : UInt8)] : List UInt8).length + (bd 16 m).length ≤ 1000000 by simp; omega)]
  simp only [cond_true]
  cases below with
  | true =>
    have v4 : valueS (n + 1) (yml ++ sInt) ([(45 : UInt8)] ++ dg m) = some ((3, (false, (want (ilt 0 (m : Int)) m, []))), 0, ()) := by
      rw [valueS_spec (n + 1) _ _ (by simp; omega) (by omega)]
      by_cases h0 : m = 0
      · subst h0
        rw [val_int _ _ iv_neg0]; rfl
      · rw [val_int _ _ (iv_pf [45] true (.inl ⟨rfl, rfl⟩) m hm19 (fun h => absurd h h0)), ilt_t (by omega)]
    have v5 : valueS (n + 1) (yml ++ sFloat) ([(45 : UInt8)] ++ dg m) = some ((4, (false, (want true m, []))), 0, ()) := by
      rw [valueS_spec (n + 1) _ _ (by simp; omega) (by omega), val_fl _ _ (fl_dg [45] true (.inl ⟨rfl, rfl⟩) m hm19)]
    rw [v4, v5, roomle (show ([(45 : UInt8)] : List UInt8).length + (dg m).length ≤ 1000000 by simp; omega)]
    simp only [cond_true, Option.bind_some, want, beq_self_eq_true, Bool.and_self]
  | false =>
    have v4 : valueS (n + 1) (yml ++ sInt) ([(43 : UInt8)] ++ dg m) = some ((3, (false, (want false m, []))), 0, ()) := by
      rw [valueS_spec (n + 1) _ _ (by simp; omega) (by omega), val_int _ _ (iv_pf [43] false (.inr (.inl ⟨rfl, rfl⟩)) m hm19 (fun _ => rfl))]
    have v5 : valueS (n + 1) (yml ++ sFloat) ([(43 : UInt8)] ++ dg m) = some ((4, (false, (want false m, []))), 0, ()) := by
      rw [valueS_spec (n + 1) _ _ (by simp; omega) (by omega), val_fl _ _ (fl_dg [43] false (.inr (.inl ⟨rfl, rfl⟩)) m hm19)]
    rw [v4, v5, roomle (show ([(43 : UInt8)] : List UInt8).length + (dg m).length ≤ 1000000 by simp; omega)]
    simp only [cond_true, cond_false, Option.bind_some, want, beq_self_eq_true, Bool.and_self]

theorem schemaInts_spec (n : Nat) (hn : 20000 ≤ n) (v : Int) (below : Bool) (w : Sh.wf (.int .i64) v) (_ : Sh.wf .bool below) : schemaInts n v below = some (true, ()) := by
  by_cases h : v < 0
  · unfold schemaInts
    rw [alive_spec n hn, Option.bind_some]
    simp only [Bool.not_true, cond_false, Option.bind_some]
    rw [ilt_t h]; rfl
  · obtain ⟨m, rfl⟩ : ∃ m : Nat, v = (m : Int) := ⟨v.toNat, by omega⟩
    have hb := bounds_i64 w
    exact ints_rest n hn m (by omega) below
end Go.Proofs.YtbkdijjliabfdaaDoor

/- Functions whose answers are told: by the kit's contracts. -/
namespace Go.Proofs.YtbkdijjliabfdaaDoor
open Go Go.Iv Go.Gv Go.Shelf Go.Proofs
def lays161_ren : Go.Shelf.Ren := ⟨fun | 161 => 38 | 231 => 48 | 227 => 49 | 233 => 50 | 235 => 51 | 228 => 59 | 197 => 60 | 151 => 61 | 260 => 69 | 152 => 70 | 137 => 76 | 119 => 77 | 224 => 78 | 225 => 79 | 217 => 83 | 266 => 85 | n => n, fun | 9 => 9 | 4 => 4 | 3 => 3 | 5 => 5 | 117 => 73 | 116 => 72 | 0 => 0 | 124 => 76 | 105 => 81 | 21 => 21 | 119 => 99 | 46 => 35 | 139 => 102 | 138 => 101 | n => n, fun | 3 => 2 | 4 => 3 | n => n⟩

theorem lays161 : Go.Proofs.Lays.n161 Tryd.prog lays161_ren := {
  mixed := by kernel_rfl
  f119 := Tryd.func77.trans (congrArg some (by kernel_rfl))
  f137 := Tryd.func76.trans (congrArg some (by kernel_rfl))
  f151 := Tryd.func61.trans (congrArg some (by kernel_rfl))
  f152 := Tryd.func70.trans (congrArg some (by kernel_rfl))
  f161 := Tryd.func38.trans (congrArg some (by kernel_rfl))
  f197 := Tryd.func60.trans (congrArg some (by kernel_rfl))
  f217 := Tryd.func83.trans (congrArg some (by kernel_rfl))
  f224 := Tryd.func78.trans (congrArg some (by kernel_rfl))
  f225 := Tryd.func79.trans (congrArg some (by kernel_rfl))
  f227 := Tryd.func49.trans (congrArg some (by kernel_rfl))
  f228 := Tryd.func59.trans (congrArg some (by kernel_rfl))
  f231 := Tryd.func48.trans (congrArg some (by kernel_rfl))
  f233 := Tryd.func50.trans (congrArg some (by kernel_rfl))
  f235 := Tryd.func51.trans (congrArg some (by kernel_rfl))
  f260 := Tryd.func69.trans (congrArg some (by kernel_rfl))
  f266 := Tryd.func85.trans (congrArg some (by kernel_rfl))
  t0 := Tryd.underlying0
  a0 := Tryd.isAgg0
  z0 := Tryd.sizeOf0
  v0 := Tryd.zeroValue0
  t3 := Tryd.underlying3
  a3 := Tryd.isAgg3
  z3 := Tryd.sizeOf3
  v3 := Tryd.zeroValue3
  t4 := Tryd.underlying4
  a4 := Tryd.isAgg4
  z4 := Tryd.sizeOf4
  v4 := Tryd.zeroValue4
  t5 := Tryd.underlying5
  a5 := Tryd.isAgg5
  z5 := Tryd.sizeOf5
  v5 := Tryd.zeroValue5
  t9 := Tryd.underlying9
  a9 := Tryd.isAgg9
  z9 := Tryd.sizeOf9
  v9 := Tryd.zeroValue9
  t21 := Tryd.underlying21
  a21 := Tryd.isAgg21
  z21 := Tryd.sizeOf21
  v21 := Tryd.zeroValue21
  t46 := Tryd.underlying35
  a46 := Tryd.isAgg35
  z46 := Tryd.sizeOf35
  v46 := Tryd.zeroValue35
  t105 := Tryd.underlying81
  a105 := Tryd.isAgg81
  z105 := Tryd.sizeOf81
  v105 := Tryd.zeroValue81
  t116 := Tryd.underlying72
  a116 := Tryd.isAgg72
  z116 := Tryd.sizeOf72
  t117 := Tryd.underlying73
  a117 := Tryd.isAgg73
  z117 := Tryd.sizeOf73
  v117 := Tryd.zeroValue73
  t119 := Tryd.underlying99
  a119 := Tryd.isAgg99
  z119 := Tryd.sizeOf99
  t124 := Tryd.underlying76
  a124 := Tryd.isAgg76
  z124 := Tryd.sizeOf76
  v124 := Tryd.zeroValue76
  t138 := Tryd.underlying101
  a138 := Tryd.isAgg101
  z138 := Tryd.sizeOf101
  v138 := Tryd.zeroValue101
  t139 := Tryd.underlying102
  a139 := Tryd.isAgg102
  z139 := Tryd.sizeOf102
  v139 := Tryd.zeroValue102
  g3 := by kernel_rfl
  g4 := by kernel_rfl

}

theorem sp38 : Spec1 Tryd.prog 2 38 0 := spec_trim ⟨_, _, Tryd.func38, rfl⟩ fun s cutset w h1 h2 => Go.Proofs.Any.strings_TrimLeft_laid lays161 (by kernel_rfl) s cutset w h1 h2
theorem specs_ok : SpecOK Tryd.prog (gspec hint) := gspec_ok (show SpecsOK Tryd.prog specL from ⟨sp38, trivial⟩)
end Go.Proofs.YtbkdijjliabfdaaDoor
