/- Law 5: DecimalInts. -/
import Derived.Test.YtpobfjjmnemioaaDoorLaw
import Derived.Test.YtpobfjjmnemioaaDoorGvImp
import Derived.Test.YtpobfjjmnemioaaDoorProg
import Derived.Test.YtpobfjjmnemioaaDoorGs
import Derived.Test.YtpobfjjmnemioaaDoorGvSpec
set_option linter.unusedSimpArgs false
set_option linter.unusedVariables false
namespace Go.Proofs.YtpobfjjmnemioaaDoor
open Go Go.Iv Go.Gv
set_option linter.unusedSimpArgs false
set_option linter.unusedVariables false
set_option maxRecDepth 20000

theorem ints_rest (n : Nat) (hn : 20000 ≤ n) (v : Int) (pf : List UInt8) (b : Bool) (hp : isPf pf b) (hv : ilt v 0 = b) (z m : Nat) (hz : z ≤ 50) (hm : m < 9000000000000000000) (hb : m = 0 → b = false) :
    (Option.bind (L6_12 (n + 9) v (z : Int) (m : Int) pf (0 : Int)) fun y3 =>
    Option.bind (digitsR (n + 8) y3.1.2.1) fun y4 =>
    bif (room ((List.length y3.1.2.2.1) + (List.length y4.1))) then
    Option.bind (int (n + 3) (y3.1.2.2.1 ++ y4.1)) fun y5 =>
    Option.bind (L6_18 (n + 9) y3.1.1 y3.1.2.1 y3.1.2.2.1 y4.1 y5.2.1 (0 : Int) y5.1.1 y5.1.2.1 y5.1.2.2.1 y5.1.2.2.2) fun y12 =>
    bif (room ((List.length y12.1.2.2.1) + (List.length y12.1.2.2.2.1))) then
    bif (room ((List.length (y12.1.2.2.1 ++ y12.1.2.2.2.1)) + (List.length ([(46 : UInt8), (48 : UInt8), (48 : UInt8), (48 : UInt8), (101 : UInt8), (48 : UInt8)] : List UInt8)))) then
    Option.bind (float (n + 1) ((y12.1.2.2.1 ++ y12.1.2.2.2.1) ++ ([(46 : UInt8), (48 : UInt8), (48 : UInt8), (48 : UInt8), (101 : UInt8), (48 : UInt8)] : List UInt8))) fun y13 =>
    Option.bind (digitsR (n + 8) y12.1.2.1) fun y14 =>
    Option.bind (bif y12.1.2.2.2.2.2.1 then
        bif ((y12.2.1.1 == (Go.Iv.ilt y12.1.1 (0 : Int))) && ((y12.2.1.2.1 == y14.1) && ((y12.2.1.2.2.1 == y12.1.2.2.2.2.2.2.1) && ((y12.2.1.2.2.2.1 == (0 : Int)) && Bool.true)))) then
          bif y13.2.1 then
            some ((y13.1.1 == (Go.Iv.ilt y12.1.1 (0 : Int))) && ((y13.1.2.1 == y14.1) && ((y13.1.2.2.1 == y12.1.2.2.2.2.2.2.1) && ((y13.1.2.2.2 == (0 : Int)) && Bool.true))))
          else
          some Bool.false
        else
        some Bool.false
      else
      some Bool.false) fun b16 =>
    some (b16, ())
    else none
    else none
    else none) = some (true, ()) := by
  have h19 : m < 10 ^ 19 := Nat.lt_of_lt_of_le hm (by decide)
  have hl := dg_len 18 m h19
  have hpl : pf.length ≤ 1 := by rcases hp with ⟨rfl, _⟩ | ⟨rfl, _⟩ | ⟨rfl, _⟩ <;> simp
  have hzl := zeros_loop v (m : Int) z hz z 0 (n + 9) pf (by omega) (by omega) (by omega)
  rw [show L6_12 (n + 9) v (z : Int) (m : Int) pf (0 : Int) = _ from hzl, Option.bind_some]
  simp only []
  have hd := digitsR_spec (n + 8) m (by omega) (by omega)
  rw [hd, Option.bind_some]
  simp only []
  have r1 : room ((pf ++ List.replicate z 48).length + (dg m).length) = true := roomle (by simp; omega)
  rw [r1, cond_true, int_spec (n + 3) _ (by omega), Option.bind_some, List.append_assoc, iv_int pf b hp z m hz h19 hb]
  simp only [want]
  have hc := cz_loop v (pf ++ List.replicate z 48) (dg m) true b (dg (cz m).1) ((cz m).2 : Int) 0 19 m (n + 9) 0 h19 (by omega) (by omega) (by omega)
  rw [hc, Option.bind_some]
  simp only []
  have hcl := cz_le 19 m h19
  have r2 : room ((pf ++ List.replicate z 48 ++ dg m).length + ([(46 : UInt8), (48 : UInt8), (48 : UInt8), (48 : UInt8), (101 : UInt8), (48 : UInt8)] : List UInt8).length) = true := roomle (by simp; omega)
  rw [r1, cond_true, r2, cond_true, float_spec (n + 1) _ (by simp; omega) (by omega), Option.bind_some, List.append_assoc pf, fl_int pf b hp z m hz h19]
  have hd2 := digitsR_spec (n + 8) (cz m).1 (by omega) (by omega)
  rw [hd2, Option.bind_some]
  simp only [want, hv, beq_self_eq_true, Bool.and_true, Bool.true_and, cond_true, Int.zero_add, Option.bind_some]
theorem ints_spec (v zeros : Int) (plus : Bool) : decimalInts 30000 v zeros plus = some (true, ()) := by
  have key : ∀ n, 20000 ≤ n → decimalInts n v zeros plus = some (true, ()) := fun n hn => by
    unfold decimalInts
    rw [alive_spec n hn, Option.bind_some]
    simp only [Bool.not_true, cond_false]
    generalize hX : (bif ilt v (-1152921504606846976) then some true else bif ilt 1152921504606846976 v then some true else bif ilt zeros 0 then some true else some (ilt 50 zeros)) = X
    have hc : X = some true ∨ (X = some false ∧ -1152921504606846976 ≤ v ∧ v ≤ 1152921504606846976 ∧ 0 ≤ zeros ∧ zeros ≤ 50) := by
      rw [← hX]
      rw [ilt_eq, ilt_eq, ilt_eq, ilt_eq]
      by_cases h1 : v < -1152921504606846976
      · left; simp [h1]
      by_cases h2 : 1152921504606846976 < v
      · left; simp [h2]
      by_cases h3 : zeros < 0
      · left; simp [h3]
      by_cases h4 : 50 < zeros
      · left; simp [h4]
      right
      refine ⟨by simp only [decide_eq_false h1, decide_eq_false h2, decide_eq_false h3, decide_eq_false h4, cond_false], by omega, by omega, by omega, by omega⟩
    rcases hc with h | ⟨h, h1, h2, h3, h4⟩
    · rw [h]; rfl
    rw [h, Option.bind_some, cond_false]
    obtain ⟨z, rfl⟩ : ∃ z : Nat, zeros = (z : Int) := ⟨zeros.toNat, by omega⟩
    by_cases hneg : v < 0
    · have w : IntKind.wrap .i64 ((0 : Int) - v) = ((v.natAbs : Nat) : Int) := by rw [wrap_id] <;> omega
      rw [ilt_t hneg, cond_true, w]
      exact ints_rest n hn v [45] true (.inl ⟨rfl, rfl⟩) (ilt_t hneg) z v.natAbs (by omega) (by omega) (by omega)
    · obtain ⟨m, rfl⟩ : ∃ m : Nat, v = (m : Int) := ⟨v.toNat, by omega⟩
      rw [ilt_f (show (0 : Int) ≤ (m : Int) by omega), cond_false]
      cases plus with
      | true => exact ints_rest n hn (m : Int) [43] false (.inr (.inl ⟨rfl, rfl⟩)) (ilt_f (by omega)) z m (by omega) (by omega) (fun _ => rfl)
      | false => exact ints_rest n hn (m : Int) [] false (.inr (.inr ⟨rfl, rfl⟩)) (ilt_f (by omega)) z m (by omega) (by omega) (fun _ => rfl)
  exact key 30000 (by decide)
end Go.Proofs.YtpobfjjmnemioaaDoor

/- Plain functions for the program's. -/
namespace Go.Proofs.YtpobfjjmnemioaaDoor
open Go Go.Iv Go.Gv
set_option maxRecDepth 100000
set_option linter.unusedVariables false
noncomputable def right (n : Nat) (x : (Bool × (List UInt8 × (Int × Int)))) : Option (Bool × Unit) :=
  bif (x.2.2.2 == (1 : Int)) then
    Option.bind (bif (x.2.1 == ([] : List UInt8)) then
        some (x.2.2.1 == (0 : Int))
      else
      some Bool.false) fun b1 =>
    some (b1, ())
  else
  bif (x.2.2.2 == (2 : Int)) then
    Option.bind (bif (x.2.1 == ([] : List UInt8)) then
        bif (x.2.2.1 == (0 : Int)) then
          some (!x.1)
        else
        some Bool.false
      else
      some Bool.false) fun b3 =>
    some (b3, ())
  else
  bif (x.2.2.2 == (0 : Int)) then
    bif (x.2.1 == ([(48 : UInt8)] : List UInt8)) then
      some ((x.2.2.1 == (0 : Int)), ())
    else
    bif (!(x.2.1 == ([] : List UInt8))) then
      Option.bind (count n x.2.1) fun y4 =>
      bif (y4.1 == (len x.2.1)) then
        Option.bind (x.2.1[0]?) fun x5 =>
        bif (x5 != (48 : UInt8)) then
          bif (Go.Iv.ile (0 : Int) (Go.IntKind.wrap Go.IntKind.i64 ((len x.2.1) - (1 : Int)))) then
          Option.bind (x.2.1[(Int.toNat (Go.IntKind.wrap Go.IntKind.i64 ((len x.2.1) - (1 : Int))))]?) fun x6 =>
          bif (x6 != (48 : UInt8)) then
            bif (Go.Iv.ile (-(2000000000 : Int)) x.2.2.1) then
              some ((Go.Iv.ile x.2.2.1 (2000000000 : Int)), ())
            else
            some (Bool.false, ())
          else
          some (Bool.false, ())
          else none
        else
        some (Bool.false, ())
      else
      some (Bool.false, ())
    else
    some (Bool.false, ())
  else
  some (Bool.false, ())
noncomputable def right_it : FnIt := ⟨11, [(true, (.cons .bool (.cons .str (.cons (.int .i64) (.int .i64)))))], [(false, .bool)], 2, fun n x => right n x.1⟩
theorem right_ok (n : Nat) : FnOK Go.Proofs.Tryd.prog hint shT right_it n :=
  FnOK.of (hk := fun β => (Known.mk [count_it] []).hk β) (sh := shT) (fun m _ => KnownOK.hook (KnownOK.nil.fn count_ok) m) (fun x => by kernel_rfl)

noncomputable def L3_6_Xexit0 : Tm := ⟨[(0, .one (.str)), (1, .one (.str)), (2, .one (.int .i64)), (3, .one (.int .i64))], [], 64, 64, 1000⟩
noncomputable def L3_6_Xret : Tm := ⟨[(8, .one (.bool))], [], 64, 64, 1000⟩
noncomputable def L3_6_T : Tm := ⟨[(0, .one (.str)), (1, .one (.str)), (2, .one (.int .i64)), (3, .one (.int .i64)), (10, .one (.str)), (11, .one (.int .i64))], [], 64, 64, 1000⟩
noncomputable def L3_6 : Nat → (List UInt8) → (List UInt8) → Int → Int → (List UInt8) → Int → Option ((((List UInt8) × ((List UInt8) × (Int × (Int × Unit)))) × Unit) ⊕ ((Bool × Unit) × Unit))
  | 0, _, _, _, _, _, _ => none
  | n + 1, t0, t1, t2, t3, t10, t11 =>
    bif (Go.Iv.ilt t11 (len t10)) then
      Option.bind (bif (Go.Iv.ile (0 : Int) t11) then
        Option.bind (t10[(Int.toNat t11)]?) fun x12 =>
        bif (Nat.blt (UInt8.toNat x12) (UInt8.toNat (48 : UInt8))) then
          some Bool.true
        else
        bif (Go.Iv.ile (0 : Int) t11) then
        Option.bind (t10[(Int.toNat t11)]?) fun x13 =>
        some (Nat.blt (UInt8.toNat (57 : UInt8)) (UInt8.toNat x13))
        else none
        else none) fun b14 =>
      bif b14 then
        some (.inr ((Bool.true, ()), ()))
      else
      L3_6 n t0 t1 t2 t3 t10 (Go.IntKind.wrap Go.IntKind.i64 (t11 + (1 : Int)))
    else
    some (.inl ((t0, (t1, (t2, (t3, ())))), ()))
noncomputable def L3_6_it : LoopIt := ⟨3, 6, none, L3_6_T, [(.exit 0, L3_6_Xexit0), (.ret, L3_6_Xret)], 0, fun n x => L3_6 n x.1.1 x.1.2.1 x.1.2.2.1 x.1.2.2.2.1 x.1.2.2.2.2.1 x.1.2.2.2.2.2.1⟩
theorem L3_6_Xexit0_ok : L3_6_Xexit0.ok Go.Proofs.Tryd.prog hint := by
  intro p hp
  cases hp
theorem L3_6_Xret_ok : L3_6_Xret.ok Go.Proofs.Tryd.prog hint := by
  intro p hp
  cases hp
theorem L3_6_T_ok : L3_6_T.ok Go.Proofs.Tryd.prog hint := by
  intro p hp
  cases hp
theorem L3_6_ok : ∀ n, LoopOK Go.Proofs.Tryd.prog hint shT L3_6_it n :=
  LoopOK.of (hk := fun β => (Known.mk [] []).hk β) (sh := shT) (OneLoop.of (by kernel_rfl)) L3_6_T_ok ⟨⟨L3_6_Xexit0_ok, Nat.le_refl _, Nat.le_refl _⟩, ⟨L3_6_Xret_ok, Nat.le_refl _, Nat.le_refl _⟩, trivial⟩ (fun m => KnownOK.hook KnownOK.nil m)
    (fun _ => by kernel_rfl) (fun m x => by kernel_rfl)

noncomputable def decimalMoves (n : Nat) (whl : List UInt8) (part : List UInt8) (e : Int) (by_ : Int) : Option (Bool × Unit) :=
  Option.bind (alive n ) fun y0 =>
  Option.bind (bif (!y0.1) then
      some Bool.true
    else
    bif (Go.Iv.ilt (len whl) (1 : Int)) then
      some Bool.true
    else
    bif (Go.Iv.ilt (30 : Int) (len whl)) then
      some Bool.true
    else
    bif (Go.Iv.ilt (30 : Int) (len part)) then
      some Bool.true
    else
    bif (Go.Iv.ilt e (-(100000 : Int))) then
      some Bool.true
    else
    bif (Go.Iv.ilt (100000 : Int) e) then
      some Bool.true
    else
    bif (Go.Iv.ilt by_ (0 : Int)) then
      some Bool.true
    else
    some (Go.Iv.ilt (len part) by_)) fun b2 =>
  bif b2 then
    some (y0.1, ())
  else
  bif (room ((List.length whl) + (List.length part))) then
  Option.bind (L3_6 (n + 9) whl part e by_ (whl ++ part) (0 : Int)) fun y15 =>
  match y15 with
    | .inl y16 =>
      bif (room ((List.length y16.1.1) + (List.length ([(46 : UInt8)] : List UInt8)))) then
      bif (room ((List.length (y16.1.1 ++ ([(46 : UInt8)] : List UInt8))) + (List.length y16.1.2.1))) then
      bif (room ((List.length ((y16.1.1 ++ ([(46 : UInt8)] : List UInt8)) ++ y16.1.2.1)) + (List.length ([(101 : UInt8)] : List UInt8)))) then
      Option.bind (itoaR (n + 7) y16.1.2.2.1) fun y18 =>
      bif (room ((List.length (((y16.1.1 ++ ([(46 : UInt8)] : List UInt8)) ++ y16.1.2.1) ++ ([(101 : UInt8)] : List UInt8))) + (List.length y18.1))) then
      Option.bind (float (n + 1) ((((y16.1.1 ++ ([(46 : UInt8)] : List UInt8)) ++ y16.1.2.1) ++ ([(101 : UInt8)] : List UInt8)) ++ y18.1)) fun y19 =>
      bif ((Go.Iv.ile (0 : Int) y16.1.2.2.2.1) && (Go.Iv.ile y16.1.2.2.2.1 (len y16.1.2.1))) then
      bif (room ((List.length y16.1.1) + (List.length (List.take ((Int.toNat y16.1.2.2.2.1) - 0) (List.drop 0 y16.1.2.1))))) then
      bif (room ((List.length (y16.1.1 ++ (List.take ((Int.toNat y16.1.2.2.2.1) - 0) (List.drop 0 y16.1.2.1)))) + (List.length ([(46 : UInt8)] : List UInt8)))) then
      bif ((Go.Iv.ile (0 : Int) y16.1.2.2.2.1) && (Go.Iv.ile y16.1.2.2.2.1 (len y16.1.2.1))) then
      bif (room ((List.length ((y16.1.1 ++ (List.take ((Int.toNat y16.1.2.2.2.1) - 0) (List.drop 0 y16.1.2.1))) ++ ([(46 : UInt8)] : List UInt8))) + (List.length (List.take ((List.length y16.1.2.1) - (Int.toNat y16.1.2.2.2.1)) (List.drop (Int.toNat y16.1.2.2.2.1) y16.1.2.1))))) then
      bif (room ((List.length (((y16.1.1 ++ (List.take ((Int.toNat y16.1.2.2.2.1) - 0) (List.drop 0 y16.1.2.1))) ++ ([(46 : UInt8)] : List UInt8)) ++ (List.take ((List.length y16.1.2.1) - (Int.toNat y16.1.2.2.2.1)) (List.drop (Int.toNat y16.1.2.2.2.1) y16.1.2.1)))) + (List.length ([(69 : UInt8)] : List UInt8)))) then
      Option.bind (itoaR (n + 7) (Go.IntKind.wrap Go.IntKind.i64 (y16.1.2.2.1 - y16.1.2.2.2.1))) fun y20 =>
      bif (room ((List.length ((((y16.1.1 ++ (List.take ((Int.toNat y16.1.2.2.2.1) - 0) (List.drop 0 y16.1.2.1))) ++ ([(46 : UInt8)] : List UInt8)) ++ (List.take ((List.length y16.1.2.1) - (Int.toNat y16.1.2.2.2.1)) (List.drop (Int.toNat y16.1.2.2.2.1) y16.1.2.1))) ++ ([(69 : UInt8)] : List UInt8))) + (List.length y20.1))) then
      Option.bind (float (n + 1) (((((y16.1.1 ++ (List.take ((Int.toNat y16.1.2.2.2.1) - 0) (List.drop 0 y16.1.2.1))) ++ ([(46 : UInt8)] : List UInt8)) ++ (List.take ((List.length y16.1.2.1) - (Int.toNat y16.1.2.2.2.1)) (List.drop (Int.toNat y16.1.2.2.2.1) y16.1.2.1))) ++ ([(69 : UInt8)] : List UInt8)) ++ y20.1)) fun y21 =>
      bif y19.2.1 then
        bif y21.2.1 then
          bif ((y19.1.1 == y21.1.1) && ((y19.1.2.1 == y21.1.2.1) && ((y19.1.2.2.1 == y21.1.2.2.1) && ((y19.1.2.2.2 == y21.1.2.2.2) && Bool.true)))) then
            Option.bind (right (n + 6) (y19.1.1, (y19.1.2.1, (y19.1.2.2.1, y19.1.2.2.2)))) fun y22 =>
            some (y22.1, ())
          else
          some (Bool.false, ())
        else
        some (Bool.false, ())
      else
      some (Bool.false, ())
      else none
      else none
      else none
      else none
      else none
      else none
      else none
      else none
      else none
      else none
      else none
    | .inr y17 =>
      some (y17.1.1, ())
  else none
noncomputable def decimalMoves_it : FnIt := ⟨3, [(false, .str), (false, .str), (false, (.int .i64)), (false, (.int .i64))], [(false, .bool)], 9, fun n x => decimalMoves n x.1 x.2.1 x.2.2.1 x.2.2.2.1⟩
theorem decimalMoves_ok (n : Nat) : FnOK Go.Proofs.Tryd.prog hint shT decimalMoves_it n :=
  FnOK.of (hk := fun β => (Known.mk [right_it, float_it, itoaR_it, alive_it] [L3_6_it]).hk β) (sh := shT) (fun m _ => KnownOK.hook (((((KnownOK.nil.fn alive_ok).loop L3_6_ok L3_6_T_ok).fn itoaR_ok).fn float_ok).fn right_ok) m) (fun x => by kernel_rfl)


end Go.Proofs.YtpobfjjmnemioaaDoor

/- Law 5: points that are moved. -/
namespace Go.Proofs.YtpobfjjmnemioaaDoor
open Go Go.Iv Go.Gv
set_option linter.unusedSimpArgs false
set_option linter.unusedVariables false
set_option maxRecDepth 20000

/-! ### Exponents as texts -/
theorem vf_app : ∀ (x : List UInt8) (a : Int) (c : UInt8), vf a (x ++ [c]) = vf a x * 10 + (ub c - 48)
  | [], a, c => rfl
  | d :: x, a, c => by simp only [List.cons_append, vf, vf_app x]
theorem ub_d1 (k : Nat) (h : k < 10) : ub (d1 k) - 48 = (k : Int) := by
  have : k = 0 ∨ k = 1 ∨ k = 2 ∨ k = 3 ∨ k = 4 ∨ k = 5 ∨ k = 6 ∨ k = 7 ∨ k = 8 ∨ k = 9 := by omega
  rcases this with rfl | rfl | rfl | rfl | rfl | rfl | rfl | rfl | rfl | rfl <;> decide
theorem vf_dg : ∀ (m : Nat), vf 0 (dg m) = (m : Int) := by
  intro m
  induction m using Nat.strongRecOn with
  | _ m ih =>
    by_cases h : m < 10
    · rw [dg_s m h]
      have := ub_d1 m h
      simp only [vf]; omega
    · rw [dg_l m (by omega), vf_app, ih (m / 10) (by omega), ub_d1 _ (by omega)]; omega
def it (e : Int) : List UInt8 := if e < 0 then 45 :: dg e.natAbs else dg e.natAbs
theorem itoaR_spec (n : Nat) (e : Int) (h1 : -1000000 ≤ e) (h2 : e ≤ 1000000) (hn : 30 ≤ n) : itoaR n e = some (it e, ()) := by
  have hl := dg_len 6 e.natAbs (by show e.natAbs < 10000000; omega)
  unfold itoaR it
  by_cases h : e < 0
  · have w : IntKind.wrap .i64 ((0 : Int) - e) = ((e.natAbs : Nat) : Int) := by rw [wrap_id] <;> omega
    rw [ilt_t h, cond_true, w, digitsR_spec n e.natAbs (by omega) hn, Option.bind_some, if_pos h]
    simp only []
    rw [roomle (show ([(45 : UInt8)] : List UInt8).length + (dg e.natAbs).length ≤ 1000000 by simp; omega)]
    rfl
  · obtain ⟨m, rfl⟩ : ∃ m : Nat, e = (m : Int) := ⟨e.toNat, by omega⟩
    rw [ilt_f (by omega), cond_false, digitsR_spec n m (by omega) hn, Option.bind_some, if_neg h]
    rfl
theorem ex_it (k : UInt8) (hk : k = 101 ∨ k = 69) (e : Int) (h1 : -1000000 ≤ e) (h2 : e ≤ 1000000) : ex (k :: it e) = (e, true) := by
  have hl := dg_len 6 e.natAbs (by show e.natAbs < 10000000; omega)
  obtain ⟨g1, g2, g3⟩ := dg_ok e.natAbs
  have hs : sgn (it e) = (dg e.natAbs, decide (e < 0)) := by
    unfold it
    by_cases h : e < 0
    · rw [if_pos h, decide_eq_true h]; rfl
    · rw [if_neg h, decide_eq_false h]
      cases hd : dg e.natAbs with
      | nil => exact absurd hd g2
      | cons c r =>
        rw [hd, allg, Bool.and_eq_true] at g1
        exact sgn_pf [] false (.inr (.inr ⟨rfl, rfl⟩)) c r g1.1
  have ho : okx (dg e.natAbs) = true := by
    unfold okx
    rw [dg_notnil, g1, Nat.ble_eq_true_of_le (show (dg e.natAbs).length ≤ 9 by omega)]; rfl
  have hkk : (k != 101 && k != 69) = false := by rcases hk with rfl | rfl <;> rfl
  simp only [ex, hkk, cond_false, hs, ho, cond_true, vf_dg]
  by_cases h : e < 0
  · rw [decide_eq_true h, cond_true, show -((e.natAbs : Nat) : Int) = e by omega]
  · rw [decide_eq_false h, cond_false, show ((e.natAbs : Nat) : Int) = e by omega]

/-! ### A number with a point -/
theorem fl_pt (x y z : List UInt8) (k : UInt8) (hx : allg x = true) (h0 : x ≠ []) (hy : allg y = true) (hk : dig k = false) : fl (x ++ [46] ++ y ++ [k] ++ z) = tail x y (k :: z) false := by
  have e : x ++ [46] ++ y ++ [k] ++ z = x ++ 46 :: (y ++ k :: z) := by simp
  rw [e]
  have hr : run (x ++ 46 :: (y ++ k :: z)) = x := run_stop x 46 _ hx (by decide)
  have hr2 : run (y ++ k :: z) = y := run_stop y k z hy hk
  cases x with
  | nil => exact absurd rfl h0
  | cons c r =>
    have hc : dig c = true := by rw [allg, Bool.and_eq_true] at hx; exact hx.1
    have n46 := dig_not c hc 46 (by decide)
    have hs : sgn ((c :: r) ++ 46 :: (y ++ k :: z)) = ((c :: r) ++ 46 :: (y ++ k :: z), false) := sgn_pf [] false (.inr (.inr ⟨rfl, rfl⟩)) c _ hc
    have q : ∀ (a d e : UInt8), (((c :: r) ++ 46 :: (y ++ k :: z)) == [46, a, d, e]) = false := fun a d e => by
      show ((c == 46) && _) = false
      rw [n46]; rfl
    unfold fl
    rw [hs]
    simp only []
    unfold isNan isInf
    rw [q, q, q, q, q, q]
    simp only [Bool.or_self, cond_false]
    unfold num
    rw [hr, List.drop_left, ← List.drop_drop, List.drop_left]
    rw [show pre [46] (46 :: (y ++ k :: z)) = true from rfl, cond_true, show List.drop 1 (46 :: (y ++ k :: z)) = y ++ k :: z from rfl, hr2, ← List.drop_drop, ← List.drop_drop, List.drop_left, show List.drop 1 (46 :: (y ++ k :: z)) = y ++ k :: z from rfl, List.drop_left]
theorem tail_pt (x y : List UInt8) (k : UInt8) (hk : k = 101 ∨ k = 69) (e : Int) (h1 : -1000000 ≤ e) (h2 : e ≤ 1000000) (h0 : x ≠ []) (hl : x.length + y.length ≤ 100) : tail x y (k :: it e) false = (norm false (x ++ y) (e - len y), (true, ())) := by
  have he : x.isEmpty = false := by
    cases x with
    | nil => exact absurd rfl h0
    | cons => rfl
  unfold tail
  rw [ex_it k hk e h1 h2, he, ilt_f (show len x + len y ≤ 5000 by unfold len; omega)]
  rfl

/-! ### Right -/
theorem allg_tl (x : List UInt8) (h : allg x = true) : allg (tl x) = true := by
  induction x with
  | nil => rfl
  | cons c r ih =>
    have h2 : allg r = true := by rw [allg, Bool.and_eq_true] at h; exact h.2
    unfold tl at ih ⊢
    rw [List.dropWhile]
    cases c == 48 with
    | true => exact ih h2
    | false => exact h
theorem trimR_all (x : List UInt8) : allg x = true → allg (trimR x) = true ∧ (trimR x = [] ∨ ∃ q c, trimR x = q ++ [c] ∧ (c == 48) = false) := by
  generalize hm : x.length = m
  induction m generalizing x with
  | zero =>
    intro _
    cases x with
    | nil => exact ⟨rfl, .inl rfl⟩
    | cons => cases hm
  | succ m ih =>
    intro h
    rcases last_cases x with rfl | ⟨q, c, rfl⟩
    · cases hm
    rw [trimR_concat]
    have hq : allg q = true := by rw [allg_app, Bool.and_eq_true] at h; exact h.1
    cases hc : c == 48 with
    | true => exact ih q (by simp at hm; omega) hq
    | false => exact ⟨h, .inr ⟨q, c, rfl, hc⟩⟩
theorem right_norm (n : Nat) (hn : 20000 ≤ n) (x : List UInt8) (e : Int) (hx : allg x = true) (hl : x.length ≤ 100) (h1 : -1200000 ≤ e) (h2 : e ≤ 1200000) : right n (norm false x e) = some (true, ()) := by
  have l1 := tl_len x
  have l2 := trimR_len (tl x)
  obtain ⟨a1, a2⟩ := trimR_all (tl x) (allg_tl x hx)
  unfold norm
  cases hE : (trimR (tl x)).isEmpty with
  | true => rfl
  | false =>
    simp only [cond_false]
    have hd : ∃ c r, tl x = c :: r ∧ (c == 48) = false := by
      cases ht : tl x with
      | nil => rw [ht] at hE; cases hE
      | cons c r => exact ⟨c, r, rfl, tl_head x c r ht⟩
    obtain ⟨c, r, ht, hc⟩ := hd
    obtain ⟨q, hq⟩ := trimR_id c r hc
    rw [ht] at a1 a2 hE l1 l2 ⊢
    rcases a2 with a2 | ⟨u, d, hu, hdd⟩
    · rw [a2] at hE; cases hE
    have hlen : (trimR (c :: r)).length = u.length + 1 := by rw [hu]; simp
    have hg : (trimR (c :: r))[u.length]? = some d := by rw [hu]; simp
    have hg0 : (trimR (c :: r))[0]? = some c := by rw [hq]; rfl
    have n1 : (trimR (c :: r) == [48]) = false := by
      rw [hq]; show ((c == 48) && _) = false; rw [hc]; rfl
    have n2 : (trimR (c :: r) == ([] : List UInt8)) = false := by rw [beq_nil]; exact hE
    have w : IntKind.wrap .i64 (len (trimR (c :: r)) - 1) = (u.length : Int) := by unfold len; rw [hlen, wrap_id] <;> omega
    unfold right
    simp only [n1, n2]
    rw [show ((0 : Int) == 1) = false from rfl, show ((0 : Int) == 2) = false from rfl, show ((0 : Int) == 0) = true from rfl]
    simp only [cond_false, cond_true, Bool.not_false]
    rw [count_spec n _ (by omega) (by omega), Option.bind_some, (run_all _).2 a1]
    have hb : (((trimR (c :: r)).length : Int) == len (trimR (c :: r))) = true := beq_self_eq_true _
    have hc2 : (c != 48) = true := by rw [bne, hc]; rfl
    have hd2 : (d != 48) = true := by rw [bne, hdd]; rfl
    have hle : ile (-2000000000) (e + (len (c :: r) - len (trimR (c :: r)))) = true := ile_t (by unfold len; omega)
    have hle2 : ile (e + (len (c :: r) - len (trimR (c :: r)))) 2000000000 = true := ile_t (by unfold len; omega)
    simp only [hb, cond_true, hg0, Option.bind_some, hc2, w, ile_t (show (0 : Int) ≤ (u.length : Int) by omega), Int.toNat_natCast, hg, hd2, hle, hle2]

/-! ### All are digits, or one is none -/
theorem look (t0 t1 : List UInt8) (t2 t3 : Int) (s : List UInt8) (hs : s.length ≤ 1000) : ∀ (d i n : Nat), i + d = s.length → d + 1 ≤ n →
    L3_6 n t0 t1 t2 t3 s (i : Int) = some (bif allg (s.drop i) then .inl ((t0, (t1, (t2, (t3, ())))), ()) else .inr ((true, ()), ())) := by
  intro d
  induction d with
  | zero =>
    intro i n h hn
    obtain ⟨n, rfl⟩ : ∃ k, n = k + 1 := ⟨n - 1, by omega⟩
    simp only [L3_6, len, ilt_f (show ((s.length : Nat) : Int) ≤ (i : Int) by omega), cond_false, List.drop_eq_nil_of_le (show s.length ≤ i by omega)]
    rfl
  | succ d ih =>
    intro i n h hn
    obtain ⟨n, rfl⟩ : ∃ k, n = k + 1 := ⟨n - 1, by omega⟩
    have hi : i < s.length := by omega
    have w : IntKind.wrap .i64 ((i : Int) + 1) = ((i + 1 : Nat) : Int) := by rw [wrap_id] <;> omega
    have hb : (bif Nat.blt (UInt8.toNat s[i]) (UInt8.toNat (48 : UInt8)) then some true else some (Nat.blt (UInt8.toNat (57 : UInt8)) (UInt8.toNat s[i]))) = some (!dig s[i]) := by
      unfold dig
      have e1 : UInt8.toNat 48 = 48 := rfl
      have e2 : UInt8.toNat 57 = 57 := rfl
      rw [e1, e2]
      generalize (UInt8.toNat s[i]) = v
      by_cases h1 : v < 48
      · have a : Nat.blt v 48 = true := Nat.ble_eq_true_of_le h1
        have b : Nat.ble 48 v = false := by
          cases hq : Nat.ble 48 v with
          | false => rfl
          | true => have := Nat.le_of_ble_eq_true hq; omega
        rw [a, b]; rfl
      · have a : Nat.blt v 48 = false := by
          cases hq : Nat.blt v 48 with
          | false => rfl
          | true => have := Nat.le_of_ble_eq_true hq; omega
        have b : Nat.ble 48 v = true := Nat.ble_eq_true_of_le (by omega)
        rw [a, b, cond_false, Bool.true_and]
        by_cases h2 : v ≤ 57
        · have c : Nat.blt 57 v = false := by
            cases hq : Nat.blt 57 v with
            | false => rfl
            | true => have := Nat.le_of_ble_eq_true hq; omega
          rw [c, Nat.ble_eq_true_of_le h2]; rfl
        · have c : Nat.blt 57 v = true := Nat.ble_eq_true_of_le (by omega)
          have d : Nat.ble v 57 = false := by
            cases hq : Nat.ble v 57 with
            | false => rfl
            | true => have := Nat.le_of_ble_eq_true hq; omega
          rw [c, d]; rfl
    have ih := ih (i + 1) n (by omega) (by omega)
    rw [List.drop_eq_getElem_cons hi]
    simp only [L3_6, len, ilt_t (show (i : Int) < ((s.length : Nat) : Int) by omega), ile_t (show (0 : Int) ≤ (i : Int) by omega), cond_true, Int.toNat_natCast, List.getElem?_eq_getElem hi, Option.bind_some, w, hb, allg, ih]
    cases dig s[i] <;> rfl
theorem allg_take (x : List UInt8) (h : allg x = true) (i : Nat) : allg (x.take i) = true ∧ allg (x.drop i) = true := by
  have := List.take_append_drop i x
  rw [← this, allg_app, Bool.and_eq_true] at h
  exact h
theorem moves_all (n : Nat) (w p : List UInt8) (e k : Int) (hn : 20000 ≤ n) : decimalMoves n w p e k = some (true, ()) := by
  unfold decimalMoves
  rw [alive_spec n hn, Option.bind_some]
  simp only [Bool.not_true, cond_false]
  generalize hX : (bif ilt (len w) 1 then some true else bif ilt 30 (len w) then some true else bif ilt 30 (len p) then some true else bif ilt e (-100000) then some true else bif ilt 100000 e then some true else bif ilt k 0 then some true else some (ilt (len p) k)) = X
  have hc : X = some true ∨ (X = some false ∧ 1 ≤ len w ∧ len w ≤ 30 ∧ len p ≤ 30 ∧ -100000 ≤ e ∧ e ≤ 100000 ∧ 0 ≤ k ∧ k ≤ len p) := by
    rw [← hX]
    rw [ilt_eq, ilt_eq, ilt_eq, ilt_eq, ilt_eq, ilt_eq, ilt_eq]
    by_cases h1 : len w < 1
    · left; simp [h1]
    by_cases h2 : 30 < len w
    · left; simp [h2]
    by_cases h3 : 30 < len p
    · left; simp [h3]
    by_cases h4 : e < -100000
    · left; simp [h4]
    by_cases h5 : 100000 < e
    · left; simp [h5]
    by_cases h6 : k < 0
    · left; simp [h6]
    by_cases h7 : len p < k
    · left; simp [h7]
    right
    refine ⟨by simp only [decide_eq_false h1, decide_eq_false h2, decide_eq_false h3, decide_eq_false h4, decide_eq_false h5, decide_eq_false h6, decide_eq_false h7, cond_false], by omega, by omega, by omega, by omega, by omega, by omega, by omega⟩
  rcases hc with h | ⟨h, h1, h2, h3, h4, h5, h6, h7⟩
  · rw [h]; rfl
  rw [h, Option.bind_some, cond_false]
  unfold len at h1 h2 h3 h7
  obtain ⟨j, rfl⟩ : ∃ j : Nat, k = (j : Int) := ⟨k.toNat, by omega⟩
  have R : ∀ {a : Nat}, a ≤ 1000 → room a = true := fun h => roomle (by omega)
  have hlk := look w p e (j : Int) (w ++ p) (by simp; omega) (w ++ p).length 0 (n + 9) (by omega) (by simp; omega)
  rw [R (by omega), cond_true, show L3_6 (n + 9) w p e (j : Int) (w ++ p) (0 : Int) = _ from hlk, List.drop_zero, allg_app]
  cases hwp : (allg w && allg p) with
  | false => rfl
  | true =>
    rw [Bool.and_eq_true] at hwp
    obtain ⟨hw, hp⟩ := hwp
    have hw0 : w ≠ [] := by rintro rfl; simp at h1
    have hit : ∀ e : Int, -1000000 ≤ e → e ≤ 1000000 → (it e).length ≤ 8 := fun e h1 h2 => by
      have hl := dg_len 6 e.natAbs (by show e.natAbs < 10000000; omega)
      unfold it
      split
      · simp only [List.length_cons]; omega
      · omega
    have hi1 := hit e (by omega) (by omega)
    have hi2 := hit (e - j) (by omega) (by omega)
    have we : IntKind.wrap .i64 (e - (j : Int)) = e - (j : Int) := by rw [wrap_id] <;> omega
    have hjl : (p.take j).length = j := by rw [List.length_take]; omega
    have hdl : (p.drop j).length = p.length - j := by rw [List.length_drop]
    obtain ⟨t1, t2⟩ := allg_take p hp j
    simp only [cond_true, Option.bind_some, len, List.length_append, List.length_singleton, List.length_cons, List.length_nil, we, Int.toNat_natCast, Nat.sub_zero, List.drop_zero, take_all, hjl, hdl, ile_t (show (0 : Int) ≤ (j : Int) by omega), ile_t h7, Bool.and_self,
      itoaR_spec (n + 7) e (by omega) (by omega) (by omega), itoaR_spec (n + 7) (e - j) (by omega) (by omega) (by omega)]
    rw [R (by omega), R (by omega), R (by omega), R (by omega), R (by omega), R (by omega), R (by omega), R (by omega), R (by omega)]
    simp only [cond_true]
    rw [float_spec (n + 1) _ (by simp; omega) (by omega), float_spec (n + 1) _ (by simp; omega) (by omega), Option.bind_some, Option.bind_some]
    rw [fl_pt w p (it e) 101 hw hw0 hp (by decide), tail_pt w p 101 (.inl rfl) e (by omega) (by omega) hw0 (by omega)]
    rw [fl_pt (w ++ p.take j) (p.drop j) (it (e - j)) 69 (by rw [allg_app, hw, t1]; rfl) (by simp [hw0]) t2 (by decide), tail_pt (w ++ p.take j) (p.drop j) 69 (.inr rfl) (e - j) (by omega) (by omega) (by simp [hw0]) (by simp; omega)]
    rw [List.append_assoc, List.take_append_drop]
    have he : e - (j : Int) - len (p.drop j) = e - len p := by unfold len; rw [hdl]; omega
    rw [he]
    simp only [beq_self_eq_true, Bool.and_true, cond_true]
    have := right_norm (n + 6) (by omega) (w ++ p) (e - len p) (by rw [allg_app, hw, hp]; rfl) (by simp; omega) (by unfold len; omega) (by unfold len; omega)
    generalize norm false (w ++ p) (e - len p) = x at *
    show Option.bind (right (n + 6) x) _ = _
    rw [this]; rfl
theorem moves_spec (w p : List UInt8) (e k : Int) : decimalMoves 30000 w p e k = some (true, ()) := moves_all 30000 w p e k (by decide)
end Go.Proofs.YtpobfjjmnemioaaDoor

/- Plain functions for the program's. -/
namespace Go.Proofs.YtpobfjjmnemioaaDoor
open Go Go.Iv Go.Gv
set_option maxRecDepth 100000
set_option linter.unusedVariables false
noncomputable def L12_8_Xexit1 : Tm := ⟨[(1, .one (.fix (Go.Gv.TV.ptr 64 0)))], [(64, .cells 24 [.bool, .str, .int .i64, .int .i64] true)], 65, 65, 1001⟩
noncomputable def L12_8_Xret : Tm := ⟨[(2, .one (.bool))], [(64, .cells 24 [.bool, .str, .int .i64, .int .i64] true)], 65, 65, 1001⟩
noncomputable def L12_8_T : Tm := ⟨[(1, .one (.fix (Go.Gv.TV.ptr 64 0))), (3, .one (.int .i64))], [(64, .cells 24 [.bool, .str, .int .i64, .int .i64] true)], 65, 65, 1001⟩
noncomputable def L12_8 : Nat → Int → Bool → (List UInt8) → Int → Int → Option (((Unit × Unit) × ((Bool × ((List UInt8) × (Int × (Int × Unit)))) × Unit)) ⊕ ((Bool × Unit) × ((Bool × ((List UInt8) × (Int × (Int × Unit)))) × Unit)))
  | 0, _, _, _, _, _ => none
  | n + 1, t3, c64_0, c64_1, c64_2, c64_3 =>
    bif (Go.Iv.ilt t3 (len c64_1)) then
      Option.bind (bif (Go.Iv.ile (0 : Int) t3) then
        Option.bind (c64_1[(Int.toNat t3)]?) fun x9 =>
        bif (Nat.blt (UInt8.toNat x9) (UInt8.toNat (48 : UInt8))) then
          some Bool.true
        else
        bif (Go.Iv.ile (0 : Int) t3) then
        Option.bind (c64_1[(Int.toNat t3)]?) fun x10 =>
        some (Nat.blt (UInt8.toNat (57 : UInt8)) (UInt8.toNat x10))
        else none
        else none) fun b11 =>
      bif b11 then
        some (.inr ((Bool.false, ()), ((c64_0, (c64_1, (c64_2, (c64_3, ())))), ())))
      else
      L12_8 n (Go.IntKind.wrap Go.IntKind.i64 (t3 + (1 : Int))) c64_0 c64_1 c64_2 c64_3
    else
    some (.inl (((), ()), ((c64_0, (c64_1, (c64_2, (c64_3, ())))), ())))
noncomputable def L12_8_it : LoopIt := ⟨12, 8, none, L12_8_T, [(.exit 1, L12_8_Xexit1), (.ret, L12_8_Xret)], 0, fun n x => L12_8 n x.1.2.1 x.2.1.1 x.2.1.2.1 x.2.1.2.2.1 x.2.1.2.2.2.1⟩
theorem L12_8_Xexit1_ok : L12_8_Xexit1.ok Go.Proofs.Tryd.prog hint := by
  intro p hp
  simp only [L12_8_Xexit1, List.mem_cons, List.not_mem_nil, or_false] at hp
  rcases hp with rfl
  · trivial
theorem L12_8_Xret_ok : L12_8_Xret.ok Go.Proofs.Tryd.prog hint := by
  intro p hp
  simp only [L12_8_Xret, List.mem_cons, List.not_mem_nil, or_false] at hp
  rcases hp with rfl
  · trivial
theorem L12_8_T_ok : L12_8_T.ok Go.Proofs.Tryd.prog hint := by
  intro p hp
  simp only [L12_8_T, List.mem_cons, List.not_mem_nil, or_false] at hp
  rcases hp with rfl
  · trivial
theorem L12_8_ok : ∀ n, LoopOK Go.Proofs.Tryd.prog hint shT L12_8_it n :=
  LoopOK.of (hk := fun β => (Known.mk [] []).hk β) (sh := shT) (OneLoop.of (by kernel_rfl)) L12_8_T_ok ⟨⟨L12_8_Xexit1_ok, Nat.le_refl _, Nat.le_refl _⟩, ⟨L12_8_Xret_ok, Nat.le_refl _, Nat.le_refl _⟩, trivial⟩ (fun m => KnownOK.hook KnownOK.nil m)
    (fun _ => by kernel_rfl) (fun m x => by kernel_rfl)

noncomputable def rightR (n : Nat) (x : (Bool × (List UInt8 × (Int × Int)))) : Option (Bool × Unit) :=
  bif (x.2.2.2 == (0 : Int)) then
    Option.bind (L12_8 (n + 1) (0 : Int) x.1 x.2.1 x.2.2.1 x.2.2.2) fun y12 =>
    match y12 with
      | .inl y13 =>
        bif (y13.2.1.2.1 == ([(48 : UInt8)] : List UInt8)) then
          some ((y13.2.1.2.2.1 == (0 : Int)), ())
        else
        Option.bind (bif (Go.Iv.ilt (0 : Int) (len y13.2.1.2.1)) then
            Option.bind (y13.2.1.2.1[0]?) fun x16 =>
            bif (x16 != (48 : UInt8)) then
              bif (Go.Iv.ile (0 : Int) (Go.IntKind.wrap Go.IntKind.i64 ((len y13.2.1.2.1) - (1 : Int)))) then
              Option.bind (y13.2.1.2.1[(Int.toNat (Go.IntKind.wrap Go.IntKind.i64 ((len y13.2.1.2.1) - (1 : Int))))]?) fun x17 =>
              bif (x17 != (48 : UInt8)) then
                bif (Go.Iv.ile (-(2000000000 : Int)) y13.2.1.2.2.1) then
                  some (Go.Iv.ile y13.2.1.2.2.1 (2000000000 : Int))
                else
                some Bool.false
              else
              some Bool.false
              else none
            else
            some Bool.false
          else
          some Bool.false) fun b18 =>
        some (b18, ())
      | .inr y14 =>
        some (y14.1.1, ())
  else
  bif (x.2.2.2 == (1 : Int)) then
    Option.bind (bif (x.2.1 == ([] : List UInt8)) then
        bif (x.2.2.1 == (0 : Int)) then
          bif (x.2.2.2 == (1 : Int)) then
            some Bool.true
          else
          some (!x.1)
        else
        some Bool.false
      else
      some Bool.false) fun b20 =>
    some (b20, ())
  else
  bif (x.2.2.2 == (2 : Int)) then
    Option.bind (bif (x.2.1 == ([] : List UInt8)) then
        bif (x.2.2.1 == (0 : Int)) then
          bif (x.2.2.2 == (1 : Int)) then
            some Bool.true
          else
          some (!x.1)
        else
        some Bool.false
      else
      some Bool.false) fun b22 =>
    some (b22, ())
  else
  some (Bool.false, ())
noncomputable def rightR_it : FnIt := ⟨12, [(true, (.cons .bool (.cons .str (.cons (.int .i64) (.int .i64)))))], [(false, .bool)], 1, fun n x => rightR n x.1⟩
theorem rightR_ok (n : Nat) : FnOK Go.Proofs.Tryd.prog hint shT rightR_it n :=
  FnOK.of (hk := fun β => (Known.mk [] [L12_8_it]).hk β) (sh := shT) (fun m _ => KnownOK.hook (KnownOK.nil.loop L12_8_ok L12_8_T_ok) m) (fun x => by kernel_rfl)

noncomputable def textN (_n : Nat) (x : (Bool × (List UInt8 × (Int × Int)))) : Option ((List UInt8) × Unit) :=
  bif x.1 then
    bif (x.2.2.2 == (1 : Int)) then
      some ((([(45 : UInt8)] : List UInt8) ++ ([(46 : UInt8), (105 : UInt8), (110 : UInt8), (102 : UInt8)] : List UInt8)), ())
    else
    bif (x.2.2.2 == (2 : Int)) then
      some (([(46 : UInt8), (110 : UInt8), (97 : UInt8), (110 : UInt8)] : List UInt8), ())
    else
    bif (x.2.2.1 != (0 : Int)) then
      bif (room ((List.length ([(45 : UInt8)] : List UInt8)) + (List.length x.2.1))) then
      bif (room ((List.length (([(45 : UInt8)] : List UInt8) ++ x.2.1)) + (List.length ([(101 : UInt8)] : List UInt8)))) then
      bif (Go.Gv.in64 x.2.2.1) then
      bif (room ((List.length ((([(45 : UInt8)] : List UInt8) ++ x.2.1) ++ ([(101 : UInt8)] : List UInt8))) + (List.length (Go.Lib.itoa x.2.2.1)))) then
      some ((((([(45 : UInt8)] : List UInt8) ++ x.2.1) ++ ([(101 : UInt8)] : List UInt8)) ++ (Go.Lib.itoa x.2.2.1)), ())
      else none
      else none
      else none
      else none
    else
    bif (room ((List.length ([(45 : UInt8)] : List UInt8)) + (List.length x.2.1))) then
    some ((([(45 : UInt8)] : List UInt8) ++ x.2.1), ())
    else none
  else
  bif (x.2.2.2 == (1 : Int)) then
    some ((([] : List UInt8) ++ ([(46 : UInt8), (105 : UInt8), (110 : UInt8), (102 : UInt8)] : List UInt8)), ())
  else
  bif (x.2.2.2 == (2 : Int)) then
    some (([(46 : UInt8), (110 : UInt8), (97 : UInt8), (110 : UInt8)] : List UInt8), ())
  else
  bif (x.2.2.1 != (0 : Int)) then
    bif (room ((List.length ([] : List UInt8)) + (List.length x.2.1))) then
    bif (room ((List.length (([] : List UInt8) ++ x.2.1)) + (List.length ([(101 : UInt8)] : List UInt8)))) then
    bif (Go.Gv.in64 x.2.2.1) then
    bif (room ((List.length ((([] : List UInt8) ++ x.2.1) ++ ([(101 : UInt8)] : List UInt8))) + (List.length (Go.Lib.itoa x.2.2.1)))) then
    some ((((([] : List UInt8) ++ x.2.1) ++ ([(101 : UInt8)] : List UInt8)) ++ (Go.Lib.itoa x.2.2.1)), ())
    else none
    else none
    else none
    else none
  else
  bif (room ((List.length ([] : List UInt8)) + (List.length x.2.1))) then
  some ((([] : List UInt8) ++ x.2.1), ())
  else none
noncomputable def textN_it : FnIt := ⟨13, [(true, (.cons .bool (.cons .str (.cons (.int .i64) (.int .i64)))))], [(false, .str)], 1, fun n x => textN n x.1⟩
theorem textN_ok (n : Nat) : FnOK Go.Proofs.Tryd.prog hint shT textN_it n :=
  FnOK.of (hk := fun β => (Known.mk [] []).hk β) (sh := shT) (fun m _ => KnownOK.hook KnownOK.nil m) (fun x => by kernel_rfl)

noncomputable def textNR (n : Nat) (x : (Bool × (List UInt8 × (Int × Int)))) : Option ((List UInt8) × Unit) :=
  bif x.1 then
    bif (x.2.2.2 == (1 : Int)) then
      some ((([(45 : UInt8)] : List UInt8) ++ ([(46 : UInt8), (105 : UInt8), (110 : UInt8), (102 : UInt8)] : List UInt8)), ())
    else
    bif (x.2.2.2 == (2 : Int)) then
      some (([(46 : UInt8), (110 : UInt8), (97 : UInt8), (110 : UInt8)] : List UInt8), ())
    else
    bif (room ((List.length ([(45 : UInt8)] : List UInt8)) + (List.length x.2.1))) then
    bif (x.2.2.1 != (0 : Int)) then
      bif (room ((List.length (([(45 : UInt8)] : List UInt8) ++ x.2.1)) + (List.length ([(101 : UInt8)] : List UInt8)))) then
      Option.bind (itoaR n x.2.2.1) fun y0 =>
      bif (room ((List.length ((([(45 : UInt8)] : List UInt8) ++ x.2.1) ++ ([(101 : UInt8)] : List UInt8))) + (List.length y0.1))) then
      some ((((([(45 : UInt8)] : List UInt8) ++ x.2.1) ++ ([(101 : UInt8)] : List UInt8)) ++ y0.1), ())
      else none
      else none
    else
    some ((([(45 : UInt8)] : List UInt8) ++ x.2.1), ())
    else none
  else
  bif (x.2.2.2 == (1 : Int)) then
    some ((([] : List UInt8) ++ ([(46 : UInt8), (105 : UInt8), (110 : UInt8), (102 : UInt8)] : List UInt8)), ())
  else
  bif (x.2.2.2 == (2 : Int)) then
    some (([(46 : UInt8), (110 : UInt8), (97 : UInt8), (110 : UInt8)] : List UInt8), ())
  else
  bif (room ((List.length ([] : List UInt8)) + (List.length x.2.1))) then
  bif (x.2.2.1 != (0 : Int)) then
    bif (room ((List.length (([] : List UInt8) ++ x.2.1)) + (List.length ([(101 : UInt8)] : List UInt8)))) then
    Option.bind (itoaR n x.2.2.1) fun y1 =>
    bif (room ((List.length ((([] : List UInt8) ++ x.2.1) ++ ([(101 : UInt8)] : List UInt8))) + (List.length y1.1))) then
    some ((((([] : List UInt8) ++ x.2.1) ++ ([(101 : UInt8)] : List UInt8)) ++ y1.1), ())
    else none
    else none
  else
  some ((([] : List UInt8) ++ x.2.1), ())
  else none
noncomputable def textNR_it : FnIt := ⟨14, [(true, (.cons .bool (.cons .str (.cons (.int .i64) (.int .i64)))))], [(false, .str)], 2, fun n x => textNR n x.1⟩
theorem textNR_ok (n : Nat) : FnOK Go.Proofs.Tryd.prog hint shT textNR_it n :=
  FnOK.of (hk := fun β => (Known.mk [itoaR_it] []).hk β) (sh := shT) (fun m _ => KnownOK.hook (KnownOK.nil.fn itoaR_ok) m) (fun x => by kernel_rfl)


end Go.Proofs.YtpobfjjmnemioaaDoor

/- Plain functions for the program's. -/
namespace Go.Proofs.YtpobfjjmnemioaaDoor
open Go Go.Iv Go.Gv
set_option maxRecDepth 100000
set_option linter.unusedVariables false
noncomputable def decimalTexts (n : Nat) (x : (Bool × (List UInt8 × (Int × Int)))) : Option (Bool × Unit) :=
  Option.bind (alive n ) fun y0 =>
  Option.bind (rightR (n + 7) (x.1, (x.2.1, (x.2.2.1, x.2.2.2)))) fun y1 =>
  Option.bind (bif (!y0.1) then
      some Bool.true
    else
    some (Go.Iv.ilt (200 : Int) (len x.2.1))) fun b3 =>
  bif b3 then
    some (y0.1, ())
  else
  Option.bind (right (n + 6) (x.1, (x.2.1, (x.2.2.1, x.2.2.2)))) fun y4 =>
  bif (!(y4.1 == y1.1)) then
    some (Bool.false, ())
  else
  bif (!y1.1) then
    some (Bool.true, ())
  else
  Option.bind (textN (n + 7) (x.1, (x.2.1, (x.2.2.1, x.2.2.2)))) fun y5 =>
  Option.bind (textNR (n + 6) (x.1, (x.2.1, (x.2.2.1, x.2.2.2)))) fun y6 =>
  bif (!(y5.1 == y6.1)) then
    some (Bool.false, ())
  else
  Option.bind (float (n + 1) y5.1) fun y7 =>
  Option.bind (bif (Go.Iv.ilt (999999999 : Int) x.2.2.1) then
      some Bool.true
    else
    some (Go.Iv.ilt x.2.2.1 (-(999999999 : Int)))) fun b9 =>
  bif b9 then
    some ((!y7.2.1), ())
  else
  Option.bind (bif y7.2.1 then
      some ((y7.1.1 == x.1) && ((y7.1.2.1 == x.2.1) && ((y7.1.2.2.1 == x.2.2.1) && ((y7.1.2.2.2 == x.2.2.2) && Bool.true))))
    else
    some Bool.false) fun b11 =>
  some (b11, ())
noncomputable def decimalTexts_it : FnIt := ⟨4, [(true, (.cons .bool (.cons .str (.cons (.int .i64) (.int .i64)))))], [(false, .bool)], 9, fun n x => decimalTexts n x.1⟩
theorem decimalTexts_ok (n : Nat) : FnOK Go.Proofs.Tryd.prog hint shT decimalTexts_it n :=
  FnOK.of (hk := fun β => (Known.mk [float_it, textNR_it, textN_it, right_it, rightR_it, alive_it] []).hk β) (sh := shT) (fun m _ => KnownOK.hook ((((((KnownOK.nil.fn alive_ok).fn rightR_ok).fn right_ok).fn textN_ok).fn textNR_ok).fn float_ok) m) (fun x => by kernel_rfl)


end Go.Proofs.YtpobfjjmnemioaaDoor

/- Law 5: the text of a number that is right. -/
namespace Go.Proofs.YtpobfjjmnemioaaDoor
open Go Go.Iv Go.Gv
set_option linter.unusedSimpArgs false
set_option linter.unusedVariables false
set_option maxRecDepth 20000

/-! ### Numerals -/
theorem dec_dg : ∀ (k m : Nat), m < 10 ^ (k + 1) → Lib.decDigits m = dg m := by
  intro k
  induction k with
  | zero => intro m h; rw [Lib.decDigits, dg_s m (by simpa using h), dif_pos (by simpa using h)]; rfl
  | succ k ih =>
    intro m h
    by_cases hm : m < 10
    · rw [Lib.decDigits, dg_s m hm, dif_pos hm]; rfl
    · rw [Lib.decDigits, dif_neg hm, dg_l m (by omega), ih (m / 10) (by rw [Nat.pow_succ] at h; omega)]; rfl
theorem itoa_it (e : Int) (h1 : -2000000000 ≤ e) (h2 : e ≤ 2000000000) : Lib.itoa e = it e := by
  unfold Lib.itoa it
  have hb : e.natAbs < 10 ^ (10 + 1) := by show e.natAbs < 100000000000; omega
  by_cases h : e < 0
  · rw [if_pos h, if_pos h, dec_dg 10 _ hb]
  · rw [if_neg h, if_neg h, show e.toNat = e.natAbs by omega, dec_dg 10 _ hb]
theorem it_len (e : Int) (h1 : -2000000000 ≤ e) (h2 : e ≤ 2000000000) : (it e).length ≤ 12 := by
  have hl := dg_len 9 e.natAbs (by show e.natAbs < 10000000000; omega)
  unfold it
  by_cases h : e < 0
  · rw [if_pos h, List.length_cons]; omega
  · rw [if_neg h]; omega
theorem itoaR_big (n : Nat) (e : Int) (h1 : -2000000000 ≤ e) (h2 : e ≤ 2000000000) (hn : 30 ≤ n) : itoaR n e = some (it e, ()) := by
  have hl := dg_len 9 e.natAbs (by show e.natAbs < 10000000000; omega)
  unfold itoaR it
  by_cases h : e < 0
  · have w : IntKind.wrap .i64 ((0 : Int) - e) = ((e.natAbs : Nat) : Int) := by rw [wrap_id] <;> omega
    rw [ilt_t h, cond_true, w, digitsR_spec n e.natAbs (by omega) hn, Option.bind_some, if_pos h]
    simp only []
    rw [roomle (show ([(45 : UInt8)] : List UInt8).length + (dg e.natAbs).length ≤ 1000000 by simp; omega)]
    rfl
  · obtain ⟨m, rfl⟩ : ∃ m : Nat, e = (m : Int) := ⟨e.toNat, by omega⟩
    rw [ilt_f (by omega), cond_false, digitsR_spec n m (by omega) hn, Option.bind_some, if_neg h]
    rfl

/-! ### Right ones -/
def ends (d : List UInt8) : Bool := (d.head? != some 48) && (d.getLast? != some 48)
def rd (d : List UInt8) (e : Int) : Bool := bif d == [48] then e == 0 else !d.isEmpty && (allg d && (ends d && (ile (-2000000000) e && ile e 2000000000)))
def rt (x : Num) : Bool :=
  bif x.2.2.2 == 1 then x.2.1 == [] && x.2.2.1 == 0 else bif x.2.2.2 == 2 then x.2.1 == [] && (x.2.2.1 == 0 && !x.1) else bif x.2.2.2 == 0 then rd x.2.1 x.2.2.1 else false

theorem last_get (d : List UInt8) (h : d ≠ []) (hs : d.length ≤ 9223372036854775807) : (bif ile (0 : Int) (IntKind.wrap .i64 (len d - 1)) then some d[Int.toNat (IntKind.wrap .i64 (len d - 1))]? else none) = some d.getLast? := by
  have hl : 1 ≤ d.length := by cases d with | nil => exact absurd rfl h | cons a b => simp
  have w : IntKind.wrap .i64 (len d - 1) = ((d.length - 1 : Nat) : Int) := by unfold len; rw [wrap_id] <;> omega
  rw [w, ile_t (by omega), cond_true, Int.toNat_natCast, List.getLast?_eq_getElem?]

theorem right_eq (n : Nat) (x : Num) (hs : x.2.1.length ≤ 200) (hn : 20000 ≤ n) : right n x = some (rt x, ()) := by
  obtain ⟨b, d, e, w⟩ := x
  unfold right rt
  simp only at hs ⊢
  cases h1 : w == 1 with
  | true => simp only [cond_true]; cases d == [] <;> rfl
  | false =>
    cases h2 : w == 2 with
    | true => simp only [cond_true, cond_false]; cases d == [] <;> cases e == 0 <;> rfl
    | false =>
      cases h3 : w == 0 with
      | false => rfl
      | true =>
        simp only [cond_true, cond_false]
        unfold rd
        cases h4 : d == [48] with
        | true => rfl
        | false =>
          cases d with
          | nil => rfl
          | cons c r =>
            have e1 : ((c :: r) == ([] : List UInt8)) = false := rfl
            have e2 : (c :: r).isEmpty = false := rfl
            simp only [e1, e2, Bool.not_false, cond_true, cond_false, Bool.true_and]
            rw [count_spec n _ (by omega) (by omega), Option.bind_some]
            have e3 : ((((run (c :: r)).length : Nat) : Int) == len (c :: r)) = allg (c :: r) := by
              unfold len
              rw [Bool.eq_iff_iff, beq_iff_eq, ← run_all]; omega
            simp only [e3]
            cases allg (c :: r) with
            | false => rfl
            | true =>
              simp only [cond_true, Bool.true_and, List.getElem?_cons_zero, Option.bind_some]
              have hg := last_get (c :: r) (by simp) (by omega)
              unfold ends
              have e4 : ((c :: r).head? != some (48 : UInt8)) = (c != 48) := rfl
              rw [e4]
              cases c != 48 with
              | false => rfl
              | true =>
                simp only [cond_true, Bool.true_and]
                cases hi : ile (0 : Int) (IntKind.wrap .i64 (len (c :: r) - 1)) with
                | false => rw [hi] at hg; cases hg
                | true =>
                  rw [hi] at hg
                  simp only [cond_true, Option.some.injEq] at hg ⊢
                  rw [hg]
                  cases hl : (c :: r).getLast? with
                  | none => simp at hl
                  | some z =>
                    have e5 : (some z != some (48 : UInt8)) = (z != 48) := rfl
                    rw [e5, Option.bind_some]
                    cases z != 48 with
                    | false => rfl
                    | true =>
                      simp only [cond_true, Bool.true_and]
                      cases ile (-2000000000) e <;> rfl

theorem digs_loop (b : Bool) (s : List UInt8) (e w : Int) (hs : s.length ≤ 9223372036854775807) : ∀ (m i n : Nat), i + m = s.length → m + 1 ≤ n →
    L12_8 n (i : Int) b s e w = some (bif allg (s.drop i) then .inl (((), ()), ((b, (s, (e, (w, ())))), ())) else .inr ((false, ()), ((b, (s, (e, (w, ())))), ()))) := by
  intro m
  induction m with
  | zero =>
    intro i n h hn
    obtain ⟨n, rfl⟩ : ∃ k, n = k + 1 := ⟨n - 1, by omega⟩
    simp only [L12_8, len, ilt_f (show ((s.length : Nat) : Int) ≤ (i : Int) by omega), cond_false, List.drop_eq_nil_of_le (show s.length ≤ i by omega)]
    rfl
  | succ m ih =>
    intro i n h hn
    obtain ⟨n, rfl⟩ : ∃ k, n = k + 1 := ⟨n - 1, by omega⟩
    have hi : i < s.length := by omega
    have w1 : IntKind.wrap .i64 ((i : Int) + 1) = ((i + 1 : Nat) : Int) := by rw [wrap_id] <;> omega
    have z : ile (0 : Int) (i : Int) = true := ile_t (by omega)
    rw [List.drop_eq_getElem_cons hi]
    simp only [L12_8, len, ilt_t (show (i : Int) < ((s.length : Nat) : Int) by omega), z, cond_true, Int.toNat_natCast, List.getElem?_eq_getElem hi, Option.bind_some, w1, allg]
    generalize s[i] = c
    have e1 : UInt8.toNat 48 = 48 := rfl
    have e2 : UInt8.toNat 57 = 57 := rfl
    have hb : (bif Nat.blt (UInt8.toNat c) (UInt8.toNat (48 : UInt8)) then some Bool.true else some (Nat.blt (UInt8.toNat (57 : UInt8)) (UInt8.toNat c))) = some (!dig c) := by
      rw [e1, e2]
      unfold dig Nat.blt
      have h1 : Nat.ble (c.toNat.succ) 48 = !Nat.ble 48 c.toNat := by rw [Bool.eq_iff_iff, Bool.not_eq_true', ← Bool.not_eq_true, Nat.ble_eq, Nat.ble_eq]; omega
      have h2 : Nat.ble (Nat.succ 57) c.toNat = !Nat.ble c.toNat 57 := by rw [Bool.eq_iff_iff, Bool.not_eq_true', ← Bool.not_eq_true, Nat.ble_eq, Nat.ble_eq]; omega
      rw [h1, h2]
      cases Nat.ble 48 c.toNat <;> cases Nat.ble c.toNat 57 <;> rfl
    rw [hb, Option.bind_some]
    cases dig c with
    | false => rfl
    | true =>
      simp only [Bool.not_true, cond_false, Bool.true_and]
      exact ih (i + 1) n (by omega) (by omega)

theorem rightR_eq (n : Nat) (x : Num) (hs : x.2.1.length ≤ 9223372036854775807) (hn : x.2.1.length ≤ n) : rightR n x = some (rt x, ()) := by
  obtain ⟨b, d, e, w⟩ := x
  unfold rightR rt
  simp only at hs hn ⊢
  cases h3 : w == 0 with
  | true =>
    have : w = 0 := by simpa using h3
    subst this
    have e1 : ((0 : Int) == 1) = false := rfl
    have e2 : ((0 : Int) == 2) = false := rfl
    simp only [e1, e2, cond_true, cond_false]
    have hl := digs_loop b d e 0 (by omega) d.length 0 (n + 1) (by omega) (by omega)
    rw [List.drop_zero] at hl
    rw [show (0 : Int) = ((0 : Nat) : Int) from rfl] at hl ⊢
    rw [hl, Option.bind_some]
    unfold rd
    cases hg : allg d with
    | false =>
      have hne : (d == [48]) = false := by
        cases h : d == [48] with
        | false => rfl
        | true =>
          have : d = [48] := by simpa using h
          subst this; cases hg
      simp only [cond_false, hne]
      cases d.isEmpty <;> rfl
    | true =>
      simp only [cond_true, Bool.true_and]
      cases h4 : d == [48] with
      | true => rfl
      | false =>
        cases d with
        | nil => rfl
        | cons c r =>
          have e5 : ilt ((0 : Nat) : Int) (len (c :: r)) = true := ilt_t (by unfold len; simp only [List.length_cons]; omega)
          have e6 : (c :: r).isEmpty = false := rfl
          simp only [e5, e6, cond_true, cond_false, Bool.not_false, Bool.true_and, List.getElem?_cons_zero, Option.bind_some]
          have hgl := last_get (c :: r) (by simp) hs
          unfold ends
          have e4 : ((c :: r).head? != some (48 : UInt8)) = (c != 48) := rfl
          rw [e4]
          cases c != 48 with
          | false => rfl
          | true =>
            simp only [cond_true, Bool.true_and]
            rw [show ((0 : Nat) : Int) = (0 : Int) from rfl]
            cases hi : ile (0 : Int) (IntKind.wrap .i64 (len (c :: r) - 1)) with
            | false => rw [hi] at hgl; cases hgl
            | true =>
              rw [hi] at hgl
              simp only [cond_true, Option.some.injEq] at hgl ⊢
              rw [hgl]
              cases hl : (c :: r).getLast? with
              | none => simp at hl
              | some z =>
                have e5 : (some z != some (48 : UInt8)) = (z != 48) := rfl
                rw [e5, Option.bind_some]
                cases z != 48 with
                | false => rfl
                | true =>
                  simp only [cond_true, Bool.true_and]
                  cases ile (-2000000000) e <;> rfl
  | false =>
    simp only [cond_false]
    cases h1 : w == 1 with
    | true => simp only [cond_true]; cases d == [] <;> cases e == 0 <;> rfl
    | false =>
      cases h2 : w == 2 with
      | true => simp only [cond_true, cond_false, h1]; cases d == [] <;> cases e == 0 <;> rfl
      | false => rfl

/-! ### The text -/
def sg (b : Bool) : List UInt8 := bif b then [45] else []
def txt (x : Num) : List UInt8 :=
  bif x.2.2.2 == 1 then sg x.1 ++ [46, 105, 110, 102] else bif x.2.2.2 == 2 then [46, 110, 97, 110] else bif x.2.2.1 != 0 then sg x.1 ++ x.2.1 ++ [101] ++ it x.2.2.1 else sg x.1 ++ x.2.1
theorem textN_eq (n : Nat) (x : Num) (hs : x.2.1.length ≤ 200) (h1 : -2000000000 ≤ x.2.2.1) (h2 : x.2.2.1 ≤ 2000000000) : textN n x = some (txt x, ()) := by
  obtain ⟨b, d, e, w⟩ := x
  simp only at hs h1 h2
  have hl := it_len e h1 h2
  have hin : in64 e = true := by unfold in64; rw [ile_t (by omega), ile_t (by omega)]; rfl
  unfold textN txt sg
  simp only [itoa_it e h1 h2, hin]
  cases b with
  | true =>
    rw [roomle (show ([(45 : UInt8)] : List UInt8).length + d.length ≤ 1000000 by simp; omega), roomle (show (([(45 : UInt8)] : List UInt8) ++ d).length + ([(101 : UInt8)] : List UInt8).length ≤ 1000000 by simp; omega),
      roomle (show ((([(45 : UInt8)] : List UInt8) ++ d) ++ ([(101 : UInt8)] : List UInt8)).length + (it e).length ≤ 1000000 by simp; omega)]
    cases w == 1 <;> cases w == 2 <;> cases e != 0 <;> rfl
  | false =>
    rw [roomle (show ([] : List UInt8).length + d.length ≤ 1000000 by simp; omega), roomle (show (([] : List UInt8) ++ d).length + ([(101 : UInt8)] : List UInt8).length ≤ 1000000 by simp; omega),
      roomle (show ((([] : List UInt8) ++ d) ++ ([(101 : UInt8)] : List UInt8)).length + (it e).length ≤ 1000000 by simp; omega)]
    cases w == 1 <;> cases w == 2 <;> cases e != 0 <;> rfl
theorem textNR_eq (n : Nat) (x : Num) (hs : x.2.1.length ≤ 200) (h1 : -2000000000 ≤ x.2.2.1) (h2 : x.2.2.1 ≤ 2000000000) (hn : 30 ≤ n) : textNR n x = some (txt x, ()) := by
  obtain ⟨b, d, e, w⟩ := x
  simp only at hs h1 h2
  have hl := it_len e h1 h2
  unfold textNR txt sg
  simp only [itoaR_big n e h1 h2 hn, Option.bind_some]
  cases b with
  | true =>
    rw [roomle (show ([(45 : UInt8)] : List UInt8).length + d.length ≤ 1000000 by simp; omega), roomle (show (([(45 : UInt8)] : List UInt8) ++ d).length + ([(101 : UInt8)] : List UInt8).length ≤ 1000000 by simp; omega),
      roomle (show ((([(45 : UInt8)] : List UInt8) ++ d) ++ ([(101 : UInt8)] : List UInt8)).length + (it e).length ≤ 1000000 by simp; omega)]
    cases w == 1 <;> cases w == 2 <;> cases e != 0 <;> rfl
  | false =>
    rw [roomle (show ([] : List UInt8).length + d.length ≤ 1000000 by simp; omega), roomle (show (([] : List UInt8) ++ d).length + ([(101 : UInt8)] : List UInt8).length ≤ 1000000 by simp; omega),
      roomle (show ((([] : List UInt8) ++ d) ++ ([(101 : UInt8)] : List UInt8)).length + (it e).length ≤ 1000000 by simp; omega)]
    cases w == 1 <;> cases w == 2 <;> cases e != 0 <;> rfl

/-! ### And back -/
theorem ex_big (k : UInt8) (hk : k = 101 ∨ k = 69) (e : Int) (h1 : -2000000000 ≤ e) (h2 : e ≤ 2000000000) : ex (k :: it e) = bif ile (-999999999) e && ile e 999999999 then (e, true) else (0, false) := by
  obtain ⟨g1, g2, g3⟩ := dg_ok e.natAbs
  have hs : sgn (it e) = (dg e.natAbs, decide (e < 0)) := by
    unfold it
    by_cases h : e < 0
    · rw [if_pos h, decide_eq_true h]; rfl
    · rw [if_neg h, decide_eq_false h]
      cases hd : dg e.natAbs with
      | nil => exact absurd hd g2
      | cons c r =>
        rw [hd, allg, Bool.and_eq_true] at g1
        exact sgn_pf [] false (.inr (.inr ⟨rfl, rfl⟩)) c r g1.1
  have hkk : (k != 101 && k != 69) = false := by rcases hk with rfl | rfl <;> rfl
  have hc : (ile (-999999999) e && ile e 999999999) = okx (dg e.natAbs) := by
    unfold okx
    rw [dg_notnil, g1, Bool.not_false, Bool.true_and, Bool.and_true]
    by_cases h : e.natAbs < 1000000000
    · have hl := dg_len 8 e.natAbs h
      rw [ile_t (by omega), ile_t (by omega), Nat.ble_eq_true_of_le hl]; rfl
    · have hlo : ∀ (k m : Nat), 10 ^ k ≤ m → k + 1 ≤ (dg m).length := by
        intro k
        induction k with
        | zero => intro m hm; have := (dg_ok m).2.1; cases hq : dg m with | nil => exact absurd hq this | cons a b => simp
        | succ k ih =>
          intro m hm
          rw [Nat.pow_succ] at hm
          have hp : 1 ≤ 10 ^ k := Nat.one_le_pow _ _ (by decide)
          rw [dg_l m (by omega), List.length_append]
          have := ih (m / 10) (by omega)
          simp; omega
      have := hlo 9 e.natAbs (by show 1000000000 ≤ e.natAbs; omega)
      have hb : Nat.ble (dg e.natAbs).length 9 = false := by
        cases hq : Nat.ble (dg e.natAbs).length 9 with
        | false => rfl
        | true => have := Nat.le_of_ble_eq_true hq; omega
      rw [hb]
      by_cases h3 : e < 0
      · rw [ile_f (show e < -999999999 by omega)]; rfl
      · rw [ile_f (show (999999999 : Int) < e by omega), Bool.and_false]
  rw [hc]
  simp only [ex, hkk, cond_false, hs, vf_dg]
  cases okx (dg e.natAbs) with
  | false => rfl
  | true =>
    simp only [cond_true]
    by_cases h : e < 0
    · rw [decide_eq_true h, cond_true, show -((e.natAbs : Nat) : Int) = e by omega]
    · rw [decide_eq_false h, cond_false, show ((e.natAbs : Nat) : Int) = e by omega]

theorem fl_digits (b : Bool) (d r : List UInt8) (hd : allg d = true) (h0 : d ≠ []) (hr : ∀ c q, r = c :: q → dig c = false ∧ (c == 46) = false) : fl (sg b ++ d ++ r) = tail d [] r b := by
  cases d with
  | nil => exact absurd rfl h0
  | cons c q =>
    have hd' := hd
    rw [allg, Bool.and_eq_true] at hd'
    have hdc := hd'.1
    have hs : sgn (sg b ++ (c :: q) ++ r) = ((c :: q) ++ r, b) := by
      cases b with
      | true => exact sgn_pf [45] true (.inl ⟨rfl, rfl⟩) c (q ++ r) hdc
      | false => exact sgn_pf [] false (.inr (.inr ⟨rfl, rfl⟩)) c (q ++ r) hdc
    have n46 := dig_not c hdc 46 (by decide)
    have hnan : isNan (sg b ++ (c :: q) ++ r) = false := by
      have ne : ∀ l : List UInt8, (sg b ++ (c :: q) ++ r == 46 :: l) = false := fun l => by
        cases b with
        | true =>
          show ((45 : UInt8) :: ((c :: q) ++ r) == 46 :: l) = false
          rfl
        | false =>
          cases hb : (sg false ++ (c :: q) ++ r == 46 :: l) with
          | false => rfl
          | true =>
            have e : c :: (q ++ r) = 46 :: l := by simpa [sg] using hb
            cases e; simp at n46
      unfold isNan
      simp only [ne, Bool.or_self]
    have hinf : isInf ((c :: q) ++ r) = false := by
      have ne : ∀ l : List UInt8, ((c :: q) ++ r == 46 :: l) = false := fun l => by
        cases hb : ((c :: q) ++ r == 46 :: l) with
        | false => rfl
        | true =>
          have e : c :: (q ++ r) = 46 :: l := by simpa using hb
          cases e; simp at n46
      unfold isInf
      simp only [ne, Bool.or_self]
    unfold fl
    rw [hs, hnan, hinf]
    simp only [cond_false]
    have hrun : run ((c :: q) ++ r) = c :: q := by
      cases r with
      | nil => rw [List.append_nil]; exact run_id _ hd
      | cons k z => exact run_stop (c :: q) k z hd (hr k z rfl).1
    unfold num
    rw [hrun, List.drop_left' rfl]
    have hp : pre [46] r = false := by
      cases r with
      | nil => rfl
      | cons k z => rw [pre1]; exact (hr k z rfl).2
    rw [hp]; rfl

theorem tail_norm (b : Bool) (d : List UInt8) (e : Int) (hd : allg d = true) (h0 : d ≠ []) (he : d = [48] ∧ e = 0 ∨ ends d = true) (hl : d.length ≤ 200) : norm b d e = (b, (d, (e, 0))) := by
  rcases he with ⟨rfl, rfl⟩ | he
  · rfl
  · unfold ends at he
    rw [Bool.and_eq_true] at he
    rcases last_cases d with h | ⟨q, z, rfl⟩
    · exact absurd h h0
    · have hz : (z == 48) = false := by
        have := he.2
        rw [List.getLast?_concat] at this
        unfold bne at this
        have e5 : (some z == some (48 : UInt8)) = (z == 48) := rfl
        rw [e5] at this; simpa using this
      have ht : tl (q ++ [z]) = q ++ [z] := by
        cases hq : q ++ [z] with
        | nil => simp at hq
        | cons c r =>
          have h1 := he.1
          rw [hq] at h1
          have e5 : ((c :: r).head? != some (48 : UInt8)) = !(c == 48) := rfl
          rw [e5] at h1
          exact tl_id c r (by simpa using h1)
      have hr : trimR (q ++ [z]) = q ++ [z] := by rw [trimR_concat, hz]; rfl
      unfold norm
      rw [ht, hr]
      have : (q ++ [z]).isEmpty = false := by cases q <;> rfl
      rw [this, cond_false, Int.sub_self, Int.add_zero]

theorem fl_txt (x : Num) (hr : rt x = true) (hl : x.2.1.length ≤ 200) : -2000000000 ≤ x.2.2.1 ∧ x.2.2.1 ≤ 2000000000 ∧ (fl (txt x) = bif ile (-999999999) x.2.2.1 && ile x.2.2.1 999999999 then (x, (true, ())) else no) := by
  obtain ⟨b, d, e, w⟩ := x
  simp only at hl ⊢
  unfold rt at hr
  simp only at hr
  cases h1 : w == 1 with
  | true =>
    have : w = 1 := by simpa using h1
    subst this
    rw [show ((1 : Int) == 1) = true from rfl] at hr
    simp only [cond_true, Bool.and_eq_true, beq_iff_eq] at hr
    obtain ⟨rfl, rfl⟩ := hr
    refine ⟨by omega, by omega, ?_⟩
    cases b <;> rfl
  | false =>
    cases h2 : w == 2 with
    | true =>
      have : w = 2 := by simpa using h2
      subst this
      rw [show ((2 : Int) == 1) = false from rfl, show ((2 : Int) == 2) = true from rfl] at hr
      simp only [cond_true, cond_false, Bool.and_eq_true, beq_iff_eq] at hr
      obtain ⟨rfl, rfl, hb⟩ := hr
      have : b = false := by simpa using hb
      subst this
      exact ⟨by omega, by omega, rfl⟩
    | false =>
      rw [h1, h2] at hr
      simp only [cond_false] at hr
      cases h3 : w == 0 with
      | false => rw [h3] at hr; cases hr
      | true =>
        have : w = 0 := by simpa using h3
        subst this
        rw [h3] at hr
        simp only [cond_true] at hr
        have hd : -2000000000 ≤ e ∧ e ≤ 2000000000 ∧ allg d = true ∧ d ≠ [] ∧ (d = [48] ∧ e = 0 ∨ ends d = true) := by
          unfold rd at hr
          cases h4 : d == [48] with
          | true =>
            rw [h4] at hr
            have h5 : e = 0 := by simpa using hr
            have h6 : d = [48] := by simpa using h4
            subst h5; subst h6
            exact ⟨by omega, by omega, rfl, by simp, .inl ⟨rfl, rfl⟩⟩
          | false =>
            rw [h4] at hr
            simp only [cond_false, Bool.and_eq_true] at hr
            obtain ⟨a1, a2, a3, a4, a5⟩ := hr
            have := ile_true a4
            have := ile_true a5
            exact ⟨by omega, by omega, a2, (by rintro rfl; cases a1), .inr a3⟩
        obtain ⟨b1, b2, b3, b4, b5⟩ := hd
        refine ⟨b1, b2, ?_⟩
        unfold txt
        simp only [h1, h2, cond_false]
        have hw : d.isEmpty = false := by cases d with | nil => exact absurd rfl b4 | cons a q => rfl
        have hlen : ilt 5000 (len d + len ([] : List UInt8)) = false := ilt_f (by unfold len; simp; omega)
        by_cases h0 : e = 0
        · subst h0
          have : ((0 : Int) != 0) = false := rfl
          rw [this, cond_false]
          have hf := fl_digits b d [] b3 b4 (fun c q h => by cases h)
          rw [List.append_nil] at hf
          rw [hf]
          unfold tail
          rw [hw, hlen]
          have e2 : (ex []).2 = true := rfl
          have e3 : (ex []).1 = 0 := rfl
          rw [e2, e3, List.append_nil, show ((0 : Int) - len ([] : List UInt8)) = 0 from rfl, tail_norm b d 0 b3 b4 b5 hl]
          rfl
        · have : (e != 0) = true := by simpa using h0
          rw [this, cond_true]
          have hf := fl_digits b d ([101] ++ it e) b3 b4 (fun c q h => by cases h; exact ⟨by decide, by decide⟩)
          rw [← List.append_assoc] at hf
          rw [hf]
          unfold tail
          rw [hw, hlen, show ([101] ++ it e : List UInt8) = 101 :: it e from rfl, ex_big 101 (.inl rfl) e b1 b2]
          cases ile (-999999999) e && ile e 999999999 with
          | false => rfl
          | true =>
            simp only [cond_true, Bool.not_true, Bool.false_and, Bool.or_self, Bool.or_false, cond_false]
            rw [List.append_nil, show (e - len ([] : List UInt8)) = e by unfold len; simp, tail_norm b d e b3 b4 b5 hl]

theorem txt_len (x : Num) (hl : x.2.1.length ≤ 200) (h1 : -2000000000 ≤ x.2.2.1) (h2 : x.2.2.1 ≤ 2000000000) : (txt x).length ≤ 6000 := by
  have hi := it_len _ h1 h2
  have hs : (sg x.1).length ≤ 1 := by cases x.1 <;> decide
  unfold txt
  cases x.2.2.2 == 1 <;> cases x.2.2.2 == 2 <;> cases x.2.2.1 != 0 <;> simp <;> omega

theorem texts_all (n : Nat) (x : Num) (hs : x.2.1.length ≤ 9223372036854775807) (hn : 9223372036854775807 ≤ n) : decimalTexts n x = some (true, ()) := by
  obtain ⟨b, d, e, w⟩ := x
  unfold decimalTexts
  simp only at hs ⊢
  rw [alive_spec n (by omega), Option.bind_some, rightR_eq (n + 7) (b, (d, (e, w))) hs (by simp only; omega), Option.bind_some]
  simp only [Bool.not_true, cond_false, Option.bind_some]
  cases h : ilt 200 (len d) with
  | true => rfl
  | false =>
    have hl : d.length ≤ 200 := by
      rcases Nat.lt_or_ge 200 d.length with h1 | h1
      · rw [ilt_t (show (200 : Int) < len d by unfold len; omega)] at h; cases h
      · exact h1
    simp only [cond_false]
    rw [right_eq (n + 6) (b, (d, (e, w))) hl (by omega), Option.bind_some]
    simp only [beq_self_eq_true, Bool.not_true, cond_false]
    cases hr : rt (b, (d, (e, w))) with
    | false => rfl
    | true =>
      obtain ⟨e1, e2, e3⟩ := fl_txt (b, (d, (e, w))) hr hl
      simp only at e1 e2 e3
      simp only [Bool.not_true, cond_false]
      rw [textN_eq (n + 7) (b, (d, (e, w))) hl e1 e2, Option.bind_some, textNR_eq (n + 6) (b, (d, (e, w))) hl e1 e2 (by omega), Option.bind_some]
      simp only [beq_self_eq_true, Bool.not_true, cond_false]
      rw [float_spec (n + 1) _ (txt_len (b, (d, (e, w))) hl e1 e2) (by omega), Option.bind_some, e3]
      by_cases h1 : 999999999 < e
      · rw [ilt_t h1, ile_f h1, Bool.and_false]; rfl
      · rw [ilt_f (show e ≤ 999999999 by omega), ile_t (show e ≤ 999999999 by omega), Bool.and_true]
        by_cases h2 : e < -999999999
        · rw [ilt_t h2, ile_f h2]; rfl
        · rw [ilt_f (show (-999999999 : Int) ≤ e by omega), ile_t (show (-999999999 : Int) ≤ e by omega)]
          simp only [cond_true, cond_false, Option.bind_some, beq_self_eq_true, Bool.and_self]
theorem texts_spec (n : Nat) (hn : 9223372036854775807 ≤ n) (x : Num) (w : Sh.wf (.cons .bool (.cons .str (.cons (.int .i64) (.int .i64)))) x) : decimalTexts n x = some (true, ()) :=
  texts_all n x (by have h : List.length x.2.1 ≤ maxLen := w.2.1; unfold maxLen at h; omega) hn
end Go.Proofs.YtpobfjjmnemioaaDoor

/- Functions whose answers are told: by the kit's contracts. -/
namespace Go.Proofs.YtpobfjjmnemioaaDoor
open Go Go.Iv Go.Gv Go.Shelf Go.Proofs
def lays171_ren : Go.Shelf.Ren := ⟨fun | 171 => 25 | 243 => 38 | 246 => 57 | 283 => 72 | 284 => 73 | 285 => 74 | 286 => 75 | 129 => 84 | 317 => 83 | 318 => 85 | 319 => 86 | 320 => 87 | 337 => 95 | 338 => 96 | n => n, fun | 3 => 3 | 9 => 9 | 2 => 2 | 4 => 4 | 171 => 85 | 0 => 0 | 53 => 86 | 37 => 53 | 5 => 5 | 173 => 89 | 212 => 101 | 51 => 102 | 20 => 20 | 213 => 103 | 46 => 94 | 232 => 119 | 233 => 120 | n => n, fun | 17 => 2 | 18 => 6 | 19 => 7 | n => n⟩

theorem lays171 : Go.Proofs.LaysM.n171 Tryd.prog lays171_ren := {
  mixed := by kernel_rfl
  f129 := Tryd.func84.trans (congrArg some (by kernel_rfl))
  f171 := Tryd.func25.trans (congrArg some (by kernel_rfl))
  f243 := Tryd.func38.trans (congrArg some (by kernel_rfl))
  f246 := Tryd.func57.trans (congrArg some (by kernel_rfl))
  f283 := Tryd.func72.trans (congrArg some (by kernel_rfl))
  f284 := Tryd.func73.trans (congrArg some (by kernel_rfl))
  f285 := Tryd.func74.trans (congrArg some (by kernel_rfl))
  f286 := Tryd.func75.trans (congrArg some (by kernel_rfl))
  f317 := Tryd.func83.trans (congrArg some (by kernel_rfl))
  f318 := Tryd.func85.trans (congrArg some (by kernel_rfl))
  f319 := Tryd.func86.trans (congrArg some (by kernel_rfl))
  f320 := Tryd.func87.trans (congrArg some (by kernel_rfl))
  f337 := Tryd.func95.trans (congrArg some (by kernel_rfl))
  f338 := Tryd.func96.trans (congrArg some (by kernel_rfl))
  t0 := Tryd.underlying0
  a0 := Tryd.isAgg0
  z0 := Tryd.sizeOf0
  v0 := Tryd.zeroValue0
  t2 := Tryd.underlying2
  a2 := Tryd.isAgg2
  z2 := Tryd.sizeOf2
  v2 := Tryd.zeroValue2
  t3 := Tryd.underlying3
  a3 := Tryd.isAgg3
  z3 := Tryd.sizeOf3
  v3 := Tryd.zeroValue3
  t4 := Tryd.underlying4
  a4 := Tryd.isAgg4
  z4 := Tryd.sizeOf4
  v4 := Tryd.zeroValue4
  t5 := Tryd.underlying5
  a5 := Tryd.isAgg5
  z5 := Tryd.sizeOf5
  v5 := Tryd.zeroValue5
  t9 := Tryd.underlying9
  a9 := Tryd.isAgg9
  z9 := Tryd.sizeOf9
  v9 := Tryd.zeroValue9
  t20 := Tryd.underlying20
  a20 := Tryd.isAgg20
  z20 := Tryd.sizeOf20
  v20 := Tryd.zeroValue20
  t37 := Tryd.underlying53
  a37 := Tryd.isAgg53
  z37 := Tryd.sizeOf53
  v37 := Tryd.zeroValue53
  t46 := Tryd.underlying94
  a46 := Tryd.isAgg94
  z46 := Tryd.sizeOf94
  v46 := Tryd.zeroValue94
  t51 := Tryd.underlying102
  a51 := Tryd.isAgg102
  z51 := Tryd.sizeOf102
  v51 := Tryd.zeroValue102
  t53 := Tryd.underlying86
  a53 := Tryd.isAgg86
  z53 := Tryd.sizeOf86
  v53 := Tryd.zeroValue86
  t171 := Tryd.underlying85
  a171 := Tryd.isAgg85
  z171 := Tryd.sizeOf85
  v171 := Tryd.zeroValue85
  t173 := Tryd.underlying89
  a173 := Tryd.isAgg89
  z173 := Tryd.sizeOf89
  v173 := Tryd.zeroValue89
  t212 := Tryd.underlying101
  a212 := Tryd.isAgg101
  z212 := Tryd.sizeOf101
  v212 := Tryd.zeroValue101
  t213 := Tryd.underlying103
  a213 := Tryd.isAgg103
  z213 := Tryd.sizeOf103
  t232 := Tryd.underlying119
  a232 := Tryd.isAgg119
  z232 := Tryd.sizeOf119
  v232 := Tryd.zeroValue119
  t233 := Tryd.underlying120
  a233 := Tryd.isAgg120
  z233 := Tryd.sizeOf120
  v233 := Tryd.zeroValue120
  g17 := by kernel_rfl
  g18 := by kernel_rfl
  g19 := by kernel_rfl
  i0 := by kernel_rfl
  i2 := by kernel_rfl
  i3 := by kernel_rfl
  i4 := by kernel_rfl
  i5 := by kernel_rfl
  i9 := by kernel_rfl
  i20 := by kernel_rfl
  i37 := by kernel_rfl
  i46 := by kernel_rfl
  i51 := by kernel_rfl
  i53 := by kernel_rfl
  i171 := by kernel_rfl
  i173 := by kernel_rfl
  i212 := by kernel_rfl
  i232 := by kernel_rfl
  i233 := by kernel_rfl
  m17 := by kernel_rfl
  m18 := by kernel_rfl
  m19 := by kernel_rfl

}

theorem sp25 : Spec1 Tryd.prog 1 25 2 := spec_itoa ⟨_, _, Tryd.func25, rfl⟩ (by kernel_rfl) fun n w h0 h1 ht => Go.Proofs.Any.strconv_Itoa lays171 n h0 h1 w ht
theorem specs_ok : SpecOK Tryd.prog (gspec hint) := gspec_ok (show SpecsOK Tryd.prog specL from ⟨sp25, trivial⟩)
end Go.Proofs.YtpobfjjmnemioaaDoor
