/- Law 5: exponents. -/
import Derived.Test.YtnddpppljnjmcaaGreatDoorLaw
import Derived.Test.YtnddpppljnjmcaaGreatDoorGvImp
import Derived.Test.YtnddpppljnjmcaaGreatDoorProg
import Derived.Test.YtnddpppljnjmcaaGreatDoorGs
import Derived.Test.YtnddpppljnjmcaaGreatDoorGvSpec
set_option linter.unusedSimpArgs false
set_option linter.unusedVariables false
namespace Go.Proofs.YtnddpppljnjmcaaGreatDoor.V
open Go Go.Iv Go.Gv
set_option linter.unusedSimpArgs false
set_option linter.unusedVariables false
set_option maxRecDepth 27000
def vf : Int → List UInt8 → Int
  | a, [] => a
  | a, c :: r => vf (a * 10 + (ub c - 48)) r
def allg : List UInt8 → Bool
  | [] => true
  | c :: r => dig c && allg r
theorem run_all : ∀ (d : List UInt8), ((run d).length = d.length) ↔ allg d = true
  | [] => ⟨fun _ => rfl, fun _ => rfl⟩
  | c :: r => by
    have ih := run_all r
    unfold run at ih ⊢
    simp only [List.takeWhile, allg]
    cases dig c with
    | false => simp
    | true => simp only [List.length_cons, Bool.true_and, ← ih]; omega
theorem run_id (d : List UInt8) (h : allg d = true) : run d = d := by
  have := (run_all d).2 h
  have h2 := run_take d
  rw [this, List.take_length] at h2
  exact h2.symm
theorem dig_ub (c : UInt8) (h : dig c = true) : 48 ≤ ub c ∧ ub c ≤ 57 := by
  unfold dig at h; unfold ub
  rw [Bool.and_eq_true, Nat.ble_eq, Nat.ble_eq] at h; omega
theorem allg_get : ∀ (d : List UInt8), allg d = true → ∀ (i : Nat) (h : i < d.length), dig d[i] = true
  | [], _, i, h => by simp at h
  | c :: r, ha, i, h => by
    simp only [allg, Bool.and_eq_true] at ha
    cases i with
    | zero => exact ha.1
    | succ i => exact allg_get r ha.2 i (by simpa using h)
theorem sub48 (c : UInt8) (h : dig c = true) : ub (c - 48) = ub c - 48 := by
  have hb := dig_ub c h
  unfold ub at hb ⊢
  have e : (48 : UInt8) ≤ c := by rw [UInt8.le_iff_toNat_le]; show 48 ≤ c.toNat; omega
  rw [UInt8.toNat_sub_of_le _ _ e]
  show ((c.toNat - 48 : Nat) : Int) = (c.toNat : Int) - 48
  omega
theorem pow9 (i : Nat) (h : i ≤ 8) : (10 : Int) ^ i ≤ 100000000 ∧ (1 : Int) ≤ 10 ^ i ∧ (10 : Int) ^ (i + 1) = 10 ^ i * 10 := by
  refine ⟨?_, ?_, Int.pow_succ ..⟩
  · have := Nat.pow_le_pow_right (show 0 < 10 by decide) h
    have e : ((10 ^ i : Nat) : Int) = 10 ^ i := by norm_cast
    rw [← e]; omega
  · have : 0 < 10 ^ i := Nat.pow_pos (show 0 < 10 by decide)
    have e : ((10 ^ i : Nat) : Int) = 10 ^ i := by norm_cast
    rw [← e]; omega
theorem val_loop (t d : List UInt8) (ha : allg d = true) (hl : d.length ≤ 9) : ∀ (m i n : Nat) (a : Int), i + m = d.length → 0 ≤ a ∧ a < 10 ^ i → m + 1 ≤ n →
    L126_10 n t a d (len d) (i : Int) = some ((t, (vf a (d.drop i), ())), ()) := by
  intro m
  induction m with
  | zero =>
    intro i n a h hb hn
    obtain ⟨n, rfl⟩ : ∃ k, n = k + 1 := ⟨n - 1, by omega⟩
    simp only [L126_10, len, ilt_f (show ((d.length : Nat) : Int) ≤ (i : Int) by omega), cond_false, List.drop_eq_nil_of_le (show d.length ≤ i by omega), vf]
  | succ m ih =>
    intro i n a h hb hn
    obtain ⟨n, rfl⟩ : ∃ k, n = k + 1 := ⟨n - 1, by omega⟩
    have hi : i < d.length := by omega
    have hd := allg_get d ha i hi
    have hu := dig_ub _ hd
    obtain ⟨p1, p2, p3⟩ := pow9 i (by omega)
    have w : IntKind.wrap .i64 ((i : Int) + 1) = ((i + 1 : Nat) : Int) := by rw [wrap_id] <;> omega
    have w1 : IntKind.wrap .i64 (IntKind.wrap .i64 (a * 10) + IntKind.wrap .i64 (ub (d[i] - 48))) = a * 10 + (ub d[i] - 48) := by
      rw [ub_wrap, sub48 _ hd, wrap_id (x := a * 10), wrap_id] <;> omega
    have q : Nat.blt (UInt8.toNat 9) (UInt8.toNat (d[i] - 48)) = false := by
      have := sub48 _ hd
      unfold ub at this hu
      have e : UInt8.toNat 9 = 9 := rfl
      rw [e]
      cases hq : Nat.blt 9 (UInt8.toNat (d[i] - 48)) with
      | false => rfl
      | true =>
        have := Nat.le_of_ble_eq_true hq
        omega
    have ih := ih (i + 1) n (a * 10 + (ub d[i] - 48)) (by omega) (by rw [p3]; omega) (by omega)
    rw [List.drop_eq_getElem_cons hi]
    unfold len at ih ⊢
    simp only [L126_10, ilt_t (show (i : Int) < ((d.length : Nat) : Int) by omega), ile_t (show (0 : Int) ≤ (i : Int) by omega), cond_true, Int.toNat_natCast, List.getElem?_eq_getElem hi, Option.bind_some, w, w1, q, cond_false, vf, ih]
theorem vf_bound (d : List UInt8) : ∀ (a : Int) (i : Nat), allg d = true → i + d.length ≤ 9 → 0 ≤ a ∧ a < 10 ^ i → 0 ≤ vf a d ∧ vf a d < 1000000000 := by
  induction d with
  | nil =>
    intro a i _ h hb
    simp only [vf]
    rw [List.length_nil] at h
    have := Nat.pow_le_pow_right (show 0 < 10 by decide) h
    have e : ((10 ^ i : Nat) : Int) = 10 ^ i := by norm_cast
    rw [← e] at hb
    simp only [Nat.add_zero] at this
    omega
  | cons c r ih =>
    intro a i ha h hb
    simp only [allg, Bool.and_eq_true] at ha
    rw [List.length_cons] at h
    have hu := dig_ub _ ha.1
    obtain ⟨p1, p2, p3⟩ := pow9 i (by omega)
    exact ih _ (i + 1) ha.2 (by omega) (by rw [p3]; omega)
def okx (d : List UInt8) : Bool := !d.isEmpty && (Nat.ble d.length 9 && allg d)
def ex : List UInt8 → Int × Bool
  | [] => (0, true)
  | c :: r => bif c != 101 && c != 69 then (0, false) else bif okx (sgn r).1 then (bif (sgn r).2 then -(vf 0 (sgn r).1) else vf 0 (sgn r).1, true) else (0, false)
theorem ex_bound (s : List UInt8) : -1000000000 ≤ (ex s).1 ∧ (ex s).1 ≤ 1000000000 := by
  cases s with
  | nil => simp [ex]
  | cons c r =>
    simp only [ex]
    cases (c != 101 && c != 69) with
    | true => simp
    | false =>
      cases h : okx (sgn r).1 with
      | false => simp
      | true =>
        unfold okx at h
        rw [Bool.and_eq_true, Bool.and_eq_true, Nat.ble_eq] at h
        have := vf_bound (sgn r).1 0 0 h.2.2 (by omega) (by simp)
        cases (sgn r).2 <;> simp only [cond_true, cond_false] <;> omega
theorem exponent_spec (n : Nat) (s : List UInt8) (hs : s.length ≤ 100000) (hn : s.length + 20 ≤ n) : exponent n s = some ((ex s).1, (ex s).2, ()) := by
  cases s with
  | nil => rfl
  | cons c r =>
    unfold exponent
    have e0 : ((c :: r) == ([] : List UInt8)) = false := rfl
    have e1 : (Option.bind ((c :: r)[0]?) fun x1 => bif (x1 != (101 : UInt8)) then Option.bind ((c :: r)[0]?) fun x2 => some (x2 != (69 : UInt8)) else some Bool.false) = some (c != 101 && c != 69) := by
      show (bif c != 101 then some (c != 69) else some false) = _
      cases c != 101 <;> rfl
    have hsl := sgn_len r
    rw [e0, cond_false, e1, Option.bind_some]
    simp only [ex]
    cases (c != 101 && c != 69) with
    | true => rfl
    | false =>
      rw [cond_false, cond_false, ile_t (show (1 : Int) ≤ len (c :: r) by simp only [len, List.length_cons]; omega), cond_true, take_all]
      show Option.bind (signed (n + 2) r) _ = _
      rw [signed_spec, Option.bind_some]
      simp only [List.length_cons] at hs hn
      generalize hd : (sgn r).1 = d at *
      generalize (sgn r).2 = b at *
      rw [beq_nil]
      cases he : d.isEmpty with
      | true => rw [isEmpty_eq he]; rfl
      | false =>
        have hpos : 0 < d.length := by
          cases d with
          | nil => cases he
          | cons => simp
        rw [cond_false]
        by_cases h9 : 9 < d.length
        · have : okx d = false := by
            unfold okx
            have : Nat.ble d.length 9 = false := by
              cases hq : Nat.ble d.length 9 with
              | false => rfl
              | true => have := Nat.le_of_ble_eq_true hq; omega
            rw [this]; simp
          rw [ilt_t (show 9 < len d by unfold len; omega), cond_true, this]; rfl
        rw [ilt_f (show len d ≤ 9 by unfold len; omega), cond_false, count_spec (n + 4) d (by omega) (by omega), Option.bind_some]
        have h9' : Nat.ble d.length 9 = true := Nat.ble_eq_true_of_le (by omega)
        cases ha : allg d with
        | false =>
          have h1 : ¬ ((run d).length = d.length) := fun h => by
            have := (run_all d).1 h
            rw [ha] at this; cases this
          have h2 : (((run d).length : Int) != len d) = true := by
            rw [bne_iff_ne]; unfold len; omega
          have : okx d = false := by unfold okx; rw [ha]; simp
          rw [h2, cond_true, this]; rfl
        | true =>
          have h2 : (((run d).length : Int) != len d) = false := by
            rw [(run_all d).2 ha]; unfold len; simp
          have : okx d = true := by unfold okx; rw [ha, he, h9']; rfl
          rw [h2, cond_false, this, ilt_t (show 0 < len d by unfold len; omega), ilt_t (show len d < 19 by unfold len; omega), cond_true, Option.bind_some, cond_true]
          have hg : d[0]? = some d[0] := List.getElem?_eq_getElem hpos
          have hd0 := dig_ub _ (allg_get d ha 0 hpos)
          have n45 : (d[0] == 45) = false := by
            rw [beq_eq_false_iff_ne]; intro h; rw [h] at hd0; exact absurd hd0.1 (by decide)
          have n43 : (d[0] == 43) = false := by
            rw [beq_eq_false_iff_ne]; intro h; rw [h] at hd0; exact absurd hd0.1 (by decide)
          have hv := val_loop d d ha (by omega) d.length 0 (n + 4) 0 (by omega) (by simp) (by omega)
          rw [List.drop_zero] at hv
          rw [hg, Option.bind_some, n45, cond_false, Option.bind_some, n43, Option.bind_some, cond_false]
          rw [show L126_10 (n + 4) d (0 : Int) d (len d) (0 : Int) = _ from hv, Option.bind_some]
          simp only [hg, Option.bind_some, n45, cond_false]
          have hb := vf_bound d 0 0 ha (by omega) (by simp)
          have w : IntKind.wrap .i64 ((0 : Int) - vf 0 d) = -(vf 0 d) := by rw [wrap_id] <;> omega
          rw [w]
          cases b <;> rfl
end Go.Proofs.YtnddpppljnjmcaaGreatDoor.V
/- Law 5: floats. -/
namespace Go.Proofs.YtnddpppljnjmcaaGreatDoor.V
open Go Go.Iv Go.Gv
set_option linter.unusedSimpArgs false
set_option linter.unusedVariables false
set_option maxRecDepth 27000
def isNan (s : List UInt8) : Bool := s == [46, 110, 97, 110] || (s == [46, 78, 97, 78] || s == [46, 78, 65, 78])
def isInf (s : List UInt8) : Bool := s == [46, 105, 110, 102] || (s == [46, 73, 110, 102] || s == [46, 73, 78, 70])
def nanv : Num × (Bool × Unit) := ((false, ([], (0, 2))), (true, ()))
def infv (b : Bool) : Num × (Bool × Unit) := ((b, ([], (0, 1))), (true, ()))
def tail (w p v : List UInt8) (b : Bool) : Num × (Bool × Unit) :=
  bif !(ex v).2 || ((w.isEmpty && p.isEmpty) || ilt 5000 (len w + len p)) then no else (norm b (w ++ p) ((ex v).1 - len p), (true, ()))
def num (t : List UInt8) (b : Bool) : Num × (Bool × Unit) :=
  bif pre [46] (t.drop (run t).length) then tail (run t) (run (t.drop ((run t).length + 1))) (t.drop ((run t).length + 1 + (run (t.drop ((run t).length + 1))).length)) b
  else tail (run t) [] (t.drop (run t).length) b
def fl (s : List UInt8) : Num × (Bool × Unit) := bif isNan s then nanv else bif isInf (sgn s).1 then infv (sgn s).2 else num (sgn s).1 (sgn s).2
theorem named_spec (n : Nat) (s : List UInt8) : named n s = some (bif isNan s then nanv else bif isInf (sgn s).1 then infv (sgn s).2 else no) := by
  unfold named isNan isInf
  rw [signed_spec]
  simp only [Option.bind_some]
  cases s == [46, 110, 97, 110] <;> cases s == [46, 78, 97, 78] <;> cases s == [46, 78, 65, 78] <;> cases (sgn s).1 == [46, 105, 110, 102] <;> cases (sgn s).1 == [46, 73, 110, 102] <;> cases (sgn s).1 == [46, 73, 78, 70] <;> rfl
theorem tail_prog (n : Nat) (w p v : List UInt8) (b : Bool) (hw : w.length ≤ 8100) (hp : p.length ≤ 8100) (hn : 27000 ≤ n) :
    (Option.bind (bif (!(ex v).2) then
        some Bool.true
      else
      bif (w == ([] : List UInt8)) then
        bif (p == ([] : List UInt8)) then
          some Bool.true
        else
        some (Go.Iv.ilt (5000 : Int) (Go.IntKind.wrap Go.IntKind.i64 (len w + len p)))
      else
      some (Go.Iv.ilt (5000 : Int) (Go.IntKind.wrap Go.IntKind.i64 (len w + len p)))) fun b7 =>
    bif b7 then
      some no
    else
    bif (room (w.length + p.length)) then
    Option.bind (whole (n + 3) b (w ++ p) (Go.IntKind.wrap Go.IntKind.i64 ((ex v).1 - len p))) fun y8 =>
    some ((y8.1.1, (y8.1.2.1, (y8.1.2.2.1, y8.1.2.2.2))), Bool.true, ())
    else none) = some (tail w p v b) := by
  have hb := ex_bound v
  have w1 : IntKind.wrap .i64 (len w + len p) = len w + len p := by unfold len; rw [wrap_id] <;> omega
  have w2 : IntKind.wrap .i64 ((ex v).1 - len p) = (ex v).1 - len p := by unfold len; rw [wrap_id] <;> omega
  rw [beq_nil, beq_nil, w1, w2, whole_spec (n + 3) b (w ++ p) _ (by unfold len; omega) (by unfold len; omega) (by simp; omega) (by simp; omega), roomle (show w.length + p.length ≤ 1000000 by omega)]
  unfold tail
  cases (ex v).2 <;> cases w.isEmpty <;> cases p.isEmpty <;> cases ilt 5000 (len w + len p) <;> rfl
theorem float_spec (n : Nat) (s : List UInt8) (hs : s.length ≤ 8100) (hn : 27000 ≤ n) : float n s = some (fl s) := by
  unfold float fl
  rw [named_spec, Option.bind_some]
  cases hnan : isNan s with
  | true => rfl
  | false =>
    simp only [cond_false]
    cases hinf : isInf (sgn s).1 with
    | true => rfl
    | false =>
      simp only [cond_false, no]
      rw [signed_spec]
      simp only [Option.bind_some, take_all, Nat.sub_zero, List.drop_zero]
      have hsl := sgn_len s
      generalize (sgn s).1 = t at *
      generalize (sgn s).2 = b at *
      have hr := run_len t
      rw [count_spec (n + 5) t (by omega) (by omega)]
      simp only [Option.bind_some, len, Int.toNat_natCast, ile_t (show (0 : Int) ≤ ((run t).length : Nat) by omega), ile_t (show (((run t).length : Nat) : Int) ≤ (t.length : Nat) by omega), Bool.and_self, cond_true, hasPrefix_spec, run_take, take_all]
      unfold num
      cases hp : pre [46] (t.drop (run t).length) with
      | false =>
        simp only [cond_false]
        rw [exponent_spec n _ (by simp; omega) (by simp; omega)]
        simp only [Option.bind_some]
        have := tail_prog n (run t) [] (t.drop (run t).length) b (by omega) (by simp) hn
        exact this
      | true =>
        have hpl := pre_len _ _ hp
        simp only [List.length_drop, List.length_singleton] at hpl
        have hr2 := run_len (t.drop ((run t).length + 1))
        rw [List.length_drop] at hr2
        simp only [cond_true, List.length_drop, ile_t (show (1 : Int) ≤ ((t.length - (run t).length : Nat) : Int) by omega), List.drop_drop]
        rw [count_spec (n + 5) _ (by simp; omega) (by simp; omega)]
        have w : IntKind.wrap .i64 ((1 : Int) + ((run (t.drop ((run t).length + 1))).length : Nat)) = ((1 + (run (t.drop ((run t).length + 1))).length : Nat) : Int) := by rw [wrap_id] <;> omega
        simp only [Option.bind_some, w, Int.toNat_natCast, ile_t (show (0 : Int) ≤ ((1 + (run (t.drop ((run t).length + 1))).length : Nat) : Int) by omega), ile_t (show (1 : Int) ≤ ((1 + (run (t.drop ((run t).length + 1))).length : Nat) : Int) by omega),
          ile_t (show ((1 + (run (t.drop ((run t).length + 1))).length : Nat) : Int) ≤ ((t.length - (run t).length : Nat) : Int) by omega), Bool.and_self, cond_true]
        have e1 : (run t).length + (1 + (run (t.drop ((run t).length + 1))).length) = (run t).length + 1 + (run (t.drop ((run t).length + 1))).length := by omega
        have e2 : List.take (1 + (run (t.drop ((run t).length + 1))).length - 1) (List.drop ((run t).length + 1) t) = run (t.drop ((run t).length + 1)) := by
          rw [Nat.add_sub_cancel_left, run_take]
        rw [e1, e2, exponent_spec n _ (by simp; omega) (by simp; omega)]
        simp only [Option.bind_some]
        exact tail_prog n (run t) (run (t.drop ((run t).length + 1))) _ b (by omega) (by omega) hn
end Go.Proofs.YtnddpppljnjmcaaGreatDoor.V
/- Law 5: the reference's floats. -/
namespace Go.Proofs.YtnddpppljnjmcaaGreatDoor.V
open Go Go.Iv Go.Gv
set_option linter.unusedSimpArgs false
set_option linter.unusedVariables false
set_option maxRecDepth 27000
def isE : List UInt8 → Bool
  | [] => false
  | c :: _ => c == 101 || c == 69
theorem at_dot (t : List UInt8) (i : Nat) : (bif ilt (i : Int) (len t) then
      bif ile (0 : Int) (i : Int) then
      Option.bind (t[(Int.toNat (i : Int))]?) fun x3 => some (x3 == (46 : UInt8))
      else none
    else some Bool.false) = some (pre [46] (t.drop i)) := by
  by_cases h : i < t.length
  · rw [ilt_t (show (i : Int) < len t by unfold len; omega), cond_true, ile_t (show (0 : Int) ≤ (i : Int) by omega), cond_true, Int.toNat_natCast, List.getElem?_eq_getElem h, Option.bind_some, List.drop_eq_getElem_cons h, pre1]
  · rw [ilt_f (show len t ≤ (i : Int) by unfold len; omega), cond_false, List.drop_eq_nil_of_le (by omega)]; rfl
theorem at_e (t : List UInt8) (i : Nat) : (bif ilt (i : Int) (len t) then
        bif ile (0 : Int) (i : Int) then
        Option.bind (t[(Int.toNat (i : Int))]?) fun x9 =>
        bif (x9 == (101 : UInt8)) then
          some Bool.true
        else
        bif ile (0 : Int) (i : Int) then
        Option.bind (t[(Int.toNat (i : Int))]?) fun x10 =>
        some (x10 == (69 : UInt8))
        else none
        else none
      else
      some Bool.false) = some (isE (t.drop i)) := by
  by_cases h : i < t.length
  · rw [ilt_t (show (i : Int) < len t by unfold len; omega), cond_true, ile_t (show (0 : Int) ≤ (i : Int) by omega), cond_true, Int.toNat_natCast, List.getElem?_eq_getElem h, Option.bind_some, List.drop_eq_getElem_cons h]
    simp only [cond_true, Option.bind_some, isE]
    cases t[i] == 101 <;> rfl
  · rw [ilt_f (show len t ≤ (i : Int) by unfold len; omega), cond_false, List.drop_eq_nil_of_le (by omega)]; rfl
theorem at_ok (d : List UInt8) : (bif (((run d).length : Int) != len d) then
        some Bool.true
      else
      bif (Go.Iv.ilt ((run d).length : Int) (1 : Int)) then
        some Bool.true
      else
      some (Go.Iv.ilt (9 : Int) ((run d).length : Int))) = some (!okx d) := by
  cases ha : allg d with
  | false =>
    have h1 : ¬ ((run d).length = d.length) := fun h => by
      have := (run_all d).1 h
      rw [ha] at this; cases this
    have h2 : (((run d).length : Int) != len d) = true := by
      rw [bne_iff_ne]; unfold len; omega
    have : okx d = false := by unfold okx; rw [ha]; simp
    rw [h2, this]; rfl
  | true =>
    have h2 : (((run d).length : Int) != len d) = false := by
      rw [(run_all d).2 ha]; unfold len; simp
    rw [h2, run_id d ha]
    unfold okx
    rw [ha, Bool.and_true, cond_false]
    cases d with
    | nil => rfl
    | cons c r =>
      rw [ilt_f (show (1 : Int) ≤ ((c :: r).length : Nat) by simp only [List.length_cons]; omega), cond_false]
      by_cases h9 : (c :: r).length ≤ 9
      · rw [ilt_f (show (((c :: r).length : Nat) : Int) ≤ 9 by omega), Nat.ble_eq_true_of_le h9]; rfl
      · have : Nat.ble (c :: r).length 9 = false := by
          cases hq : Nat.ble (c :: r).length 9 with
          | false => rfl
          | true => exact absurd (Nat.le_of_ble_eq_true hq) h9
        rw [ilt_t (show 9 < (((c :: r).length : Nat) : Int) by omega), this]; rfl
theorem ex_e (v : List UInt8) (h : isE v = true) : ∃ c r, v = c :: r ∧ ex v = (bif okx (sgn r).1 then (bif (sgn r).2 then -(vf 0 (sgn r).1) else vf 0 (sgn r).1, true) else (0, false)) := by
  cases v with
  | nil => cases h
  | cons c r =>
    refine ⟨c, r, rfl, ?_⟩
    have : (c != 101 && c != 69) = false := by
      simp only [isE] at h
      rw [bne, bne]
      cases h1 : c == 101 <;> cases h2 : c == 69 <;> rw [h1, h2] at h <;> first | rfl | cases h
    simp only [ex, this, cond_false]
theorem ex_n (v : List UInt8) (h : isE v = false) : ex v = (0, v.isEmpty) := by
  cases v with
  | nil => rfl
  | cons c r =>
    have : (c != 101 && c != 69) = true := by
      simp only [isE] at h
      rw [bne, bne]
      cases h1 : c == 101 <;> cases h2 : c == 69 <;> rw [h1, h2] at h <;> first | rfl | cases h
    simp only [ex, this, cond_true, List.isEmpty_cons]
end Go.Proofs.YtnddpppljnjmcaaGreatDoor.V
/- Law 5: which texts are numbers. -/
namespace Go.Proofs.YtnddpppljnjmcaaGreatDoor.V
open Go Go.Iv Go.Gv
set_option linter.unusedSimpArgs false
set_option linter.unusedVariables false
set_option maxRecDepth 27000
theorem nan_sgn (s : List UInt8) (h : isNan s = true) : isInf (sgn s).1 = false := by
  unfold isNan at h
  rw [Bool.or_eq_true, Bool.or_eq_true, beq_iff_eq, beq_iff_eq, beq_iff_eq] at h
  rcases h with rfl | rfl | rfl <;> decide
end Go.Proofs.YtnddpppljnjmcaaGreatDoor.V
/- Law 19: what JSON tells of a text (the program's). -/
namespace Go.Proofs.YtnddpppljnjmcaaGreatDoor.V
open Go Go.Iv Go.Gv
set_option linter.unusedSimpArgs false
set_option linter.unusedVariables false
set_option maxRecDepth 27000
def yml : List UInt8 := [(116 : UInt8), (97 : UInt8), (103 : UInt8), (58 : UInt8), (121 : UInt8), (97 : UInt8), (109 : UInt8), (108 : UInt8), (46 : UInt8), (111 : UInt8), (114 : UInt8), (103 : UInt8), (44 : UInt8), (50 : UInt8), (48 : UInt8), (48 : UInt8), (50 : UInt8), (58 : UInt8)]
def sNull : List UInt8 := ([(110 : UInt8), (117 : UInt8), (108 : UInt8), (108 : UInt8)] : List UInt8)
def sBool : List UInt8 := ([(98 : UInt8), (111 : UInt8), (111 : UInt8), (108 : UInt8)] : List UInt8)
def sInt : List UInt8 := ([(105 : UInt8), (110 : UInt8), (116 : UInt8)] : List UInt8)
def sFloat : List UInt8 := ([(102 : UInt8), (108 : UInt8), (111 : UInt8), (97 : UInt8), (116 : UInt8)] : List UInt8)
def sStr : List UInt8 := ([(115 : UInt8), (116 : UInt8), (114 : UInt8)] : List UInt8)
theorem dig_all : ∀ k : Fin 256, List.contains ([(48 : UInt8), (49 : UInt8), (50 : UInt8), (51 : UInt8), (52 : UInt8), (53 : UInt8), (54 : UInt8), (55 : UInt8), (56 : UInt8), (57 : UInt8)] : List UInt8) (UInt8.ofNat k.val) = dig (UInt8.ofNat k.val) := by decide +kernel
theorem dig_in (c : UInt8) : List.contains ([(48 : UInt8), (49 : UInt8), (50 : UInt8), (51 : UInt8), (52 : UInt8), (53 : UInt8), (54 : UInt8), (55 : UInt8), (56 : UInt8), (57 : UInt8)] : List UInt8) c = dig c := by
  have := dig_all ⟨c.toNat, c.toNat_lt⟩
  simpa using this
theorem run_drop (s : List UInt8) : s.drop (run s).length = s.dropWhile dig := by
  have h : run s ++ s.dropWhile dig = s := List.takeWhile_append_dropWhile
  have : (run s ++ s.dropWhile dig).drop (run s).length = s.dropWhile dig := List.drop_left' rfl
  rw [h] at this; exact this
def okj (t : List UInt8) : Bool := ((run t).length == t.length) && Nat.ble 1 (run t).length && Nat.ble (run t).length 9
def unsign : List UInt8 → List UInt8
  | [] => []
  | c :: r => bif c == 45 || c == 43 then r else c :: r
def expo : List UInt8 → Bool
  | [] => true
  | c :: r => (c == 101 || c == 69) && okj (unsign r)
theorem expo_cons (c : UInt8) (r : List UInt8) : expo (c :: r) = ((c == 101 || c == 69) && okj (unsign r)) := rfl
theorem unsign_cons (c : UInt8) (r : List UInt8) : unsign (c :: r) = bif c == 45 || c == 43 then r else c :: r := rfl
theorem ile_nat (a b : Nat) : ile (a : Int) (b : Int) = Nat.ble a b := by
  rw [ile_eq]
  by_cases h : a ≤ b
  · rw [Nat.ble_eq_true_of_le h]; exact decide_eq_true (by omega)
  · rw [show Nat.ble a b = false from by cases hb : Nat.ble a b with | false => rfl | true => exact absurd (Nat.le_of_ble_eq_true hb) h]; exact decide_eq_false (by omega)
theorem ilt_nat (a b : Nat) : ilt (a : Int) (b : Int) = Nat.ble (a + 1) b := by
  rw [ilt_eq]
  by_cases h : a < b
  · rw [Nat.ble_eq_true_of_le h]; exact decide_eq_true (by omega)
  · rw [show Nat.ble (a + 1) b = false from by cases hb : Nat.ble (a + 1) b with | false => rfl | true => exact absurd (Nat.le_of_ble_eq_true hb) h]; exact decide_eq_false (by omega)
theorem beq_nat (a b : Nat) : (((a : Nat) : Int) == ((b : Nat) : Int)) = (a == b) := by
  rw [Bool.eq_iff_iff, beq_iff_eq, beq_iff_eq]; omega
def unminus (s : List UInt8) : List UInt8 := bif pre [45] s then s.drop 1 else s
def badw (t : List UInt8) : Bool := (run t).isEmpty || (Nat.ble 2 (run t).length && (t.head? == some 48))
def jtail (r : List UInt8) : List UInt8 := bif expo r then sFloat else sStr
def jfrac : List UInt8 → List UInt8
  | [] => jtail []
  | c :: r => bif c == 46 then bif (run r).isEmpty then sStr else jtail (r.drop (run r).length) else jtail (c :: r)
theorem jfrac_cons (c : UInt8) (r : List UInt8) : jfrac (c :: r) = bif c == 46 then bif (run r).isEmpty then sStr else jtail (r.drop (run r).length) else jtail (c :: r) := rfl
def jbody (big : Bool) (t : List UInt8) : List UInt8 :=
  bif badw t || big then sStr else bif (t.drop (run t).length).isEmpty then sInt else jfrac (t.drop (run t).length)
def jname (s : List UInt8) : List UInt8 :=
  bif s == [] || s == ([(110 : UInt8), (117 : UInt8), (108 : UInt8), (108 : UInt8)] : List UInt8) then sNull else bif s == ([(116 : UInt8), (114 : UInt8), (117 : UInt8), (101 : UInt8)] : List UInt8) || s == ([(102 : UInt8), (97 : UInt8), (108 : UInt8), (115 : UInt8), (101 : UInt8)] : List UInt8) then sBool else jbody (Nat.ble 5001 s.length) (unminus s)
theorem isEmpty_len (l : List UInt8) : (l.length == 0) = l.isEmpty := by cases l <;> rfl
end Go.Proofs.YtnddpppljnjmcaaGreatDoor.V
/- Law 19: what JSON tells of a text (the reference's). -/
namespace Go.Proofs.YtnddpppljnjmcaaGreatDoor.V
open Go Go.Iv Go.Gv
set_option linter.unusedSimpArgs false
set_option linter.unusedVariables false
set_option maxRecDepth 27000
end Go.Proofs.YtnddpppljnjmcaaGreatDoor.V
/- Law 19: tags and values. -/
namespace Go.Proofs.YtnddpppljnjmcaaGreatDoor.V
open Go Go.Iv Go.Gv
set_option linter.unusedSimpArgs false
set_option linter.unusedVariables false
set_option maxRecDepth 27000
def nul (s : List UInt8) : Bool := s == [] || (s == ([(126 : UInt8)] : List UInt8) || (s == ([(110 : UInt8), (117 : UInt8), (108 : UInt8), (108 : UInt8)] : List UInt8) || (s == ([(78 : UInt8), (117 : UInt8), (108 : UInt8), (108 : UInt8)] : List UInt8) || s == ([(78 : UInt8), (85 : UInt8), (76 : UInt8), (76 : UInt8)] : List UInt8))))
def tru (s : List UInt8) : Bool := s == ([(116 : UInt8), (114 : UInt8), (117 : UInt8), (101 : UInt8)] : List UInt8) || (s == ([(84 : UInt8), (114 : UInt8), (117 : UInt8), (101 : UInt8)] : List UInt8) || s == ([(84 : UInt8), (82 : UInt8), (85 : UInt8), (69 : UInt8)] : List UInt8))
def fls (s : List UInt8) : Bool := s == ([(102 : UInt8), (97 : UInt8), (108 : UInt8), (115 : UInt8), (101 : UInt8)] : List UInt8) || (s == ([(70 : UInt8), (97 : UInt8), (108 : UInt8), (115 : UInt8), (101 : UInt8)] : List UInt8) || s == ([(70 : UInt8), (65 : UInt8), (76 : UInt8), (83 : UInt8), (69 : UInt8)] : List UInt8))
theorem nullS_spec (n : Nat) (s : List UInt8) : nullS n s = some (nul s, ()) := by
  unfold nullS nul
  cases s == ([] : List UInt8) <;> cases s == ([(126 : UInt8)] : List UInt8) <;> cases s == ([(110 : UInt8), (117 : UInt8), (108 : UInt8), (108 : UInt8)] : List UInt8) <;> cases s == ([(78 : UInt8), (117 : UInt8), (108 : UInt8), (108 : UInt8)] : List UInt8) <;> rfl
theorem truthS_spec (n : Nat) (s : List UInt8) : truthS n s = some (tru s, tru s || fls s, ()) := by
  unfold truthS tru fls
  cases s == ([(116 : UInt8), (114 : UInt8), (117 : UInt8), (101 : UInt8)] : List UInt8) <;> cases s == ([(84 : UInt8), (114 : UInt8), (117 : UInt8), (101 : UInt8)] : List UInt8) <;> cases s == ([(84 : UInt8), (82 : UInt8), (85 : UInt8), (69 : UInt8)] : List UInt8) <;> cases s == ([(102 : UInt8), (97 : UInt8), (108 : UInt8), (115 : UInt8), (101 : UInt8)] : List UInt8) <;> cases s == ([(70 : UInt8), (97 : UInt8), (108 : UInt8), (115 : UInt8), (101 : UInt8)] : List UInt8) <;> cases s == ([(70 : UInt8), (65 : UInt8), (76 : UInt8), (83 : UInt8), (69 : UInt8)] : List UInt8) <;> rfl
theorem beq_comm8 (a b : List UInt8) : (a == b) = (b == a) := by rw [Bool.eq_iff_iff, beq_iff_eq, beq_iff_eq]; exact eq_comm
def cname (s : List UInt8) : List UInt8 := bif nul s then sNull else bif tru s || fls s then sBool else bif (iv s).2.1 then sInt else bif (fl s).2.1 then sFloat else sStr
def deft (kind : Int) : List UInt8 := bif kind == 1 then yml ++ sStr else bif kind == 2 then yml ++ ([(115 : UInt8), (101 : UInt8), (113 : UInt8)] : List UInt8) else bif kind == 3 then yml ++ ([(109 : UInt8), (97 : UInt8), (112 : UInt8)] : List UInt8) else []
def res (kind : Int) (tag s : List UInt8) (pl : Bool) (which : Int) : List UInt8 :=
  bif !(tag == []) && !(tag == ([(33 : UInt8)] : List UInt8)) then tag else bif tag == ([(33 : UInt8)] : List UInt8) || (kind != 1 || !pl) then deft kind else bif which == 2 then yml ++ cname s else bif which == 1 then yml ++ jname s else deft kind
theorem yml_len : yml.length = 18 := rfl
theorem big2 (s tag : List UInt8) : (bif !true then some true else bif ilt 300 (len s) then some true else some (ilt 300 (len tag))) = some (ilt 300 (len s) || ilt 300 (len tag)) := by
  cases ilt 300 (len s) <;> rfl
abbrev Vl := Int × (Bool × (Num × List UInt8))
def zN : Num := (false, ([], (0, 0)))
def noV : Vl × (Int × Unit) := ((0, (false, (zN, []))), 15, ())
def val (tag s : List UInt8) : Vl × (Int × Unit) :=
  bif tag == yml ++ sNull then bif nul s then ((1, (false, (zN, []))), 0, ()) else noV else
  bif tag == yml ++ sBool then bif tru s || fls s then ((2, (tru s, (zN, []))), 0, ()) else noV else
  bif tag == yml ++ sInt then bif (iv s).2.1 then ((3, (false, ((iv s).1, []))), 0, ()) else noV else
  bif tag == yml ++ sFloat then bif (fl s).2.1 then ((4, (false, ((fl s).1, []))), 0, ()) else bif (iv s).2.1 then ((4, (false, ((iv s).1, []))), 0, ()) else noV else
  ((5, (false, (zN, s))), 0, ())
theorem floatS_spec (n : Nat) (s : List UInt8) (hs : s.length ≤ 8100) (hn : 27000 ≤ n) : floatS n s = some (bif (fl s).2.1 then ((fl s).1, (true, ())) else ((iv s).1, ((iv s).2.1, ()))) := by
  unfold floatS
  rw [float_spec n s hs hn, Option.bind_some, int_spec (n + 2) s (by omega), Option.bind_some]
  cases (fl s).2.1 <;> rfl
theorem valueS_spec (n : Nat) (tag s : List UInt8) (hs : s.length ≤ 8100) (hn : 27000 ≤ n) : valueS n tag s = some (val tag s) := by
  unfold valueS
  rw [nullS_spec, truthS_spec, int_spec (n + 3) s (by omega), floatS_spec n s hs hn]
  simp only [Option.bind_some]
  unfold val
  rw [show yml ++ sNull = ([(116 : UInt8), (97 : UInt8), (103 : UInt8), (58 : UInt8), (121 : UInt8), (97 : UInt8), (109 : UInt8), (108 : UInt8), (46 : UInt8), (111 : UInt8), (114 : UInt8), (103 : UInt8), (44 : UInt8), (50 : UInt8), (48 : UInt8), (48 : UInt8), (50 : UInt8), (58 : UInt8), (110 : UInt8), (117 : UInt8), (108 : UInt8), (108 : UInt8)] : List UInt8) from rfl, show yml ++ sBool = ([(116 : UInt8), (97 : UInt8), (103 : UInt8), (58 : UInt8), (121 : UInt8), (97 : UInt8), (109 : UInt8), (108 : UInt8), (46 : UInt8), (111 : UInt8), (114 : UInt8), (103 : UInt8), (44 : UInt8), (50 : UInt8), (48 : UInt8), (48 : UInt8), (50 : UInt8), (58 : UInt8), (98 : UInt8), (111 : UInt8), (111 : UInt8), (108 : UInt8)] : List UInt8) from rfl, show yml ++ sInt = ([(116 : UInt8), (97 : UInt8), (103 : UInt8), (58 : UInt8), (121 : UInt8), (97 : UInt8), (109 : UInt8), (108 : UInt8), (46 : UInt8), (111 : UInt8), (114 : UInt8), (103 : UInt8), (44 : UInt8), (50 : UInt8), (48 : UInt8), (48 : UInt8), (50 : UInt8), (58 : UInt8), (105 : UInt8), (110 : UInt8), (116 : UInt8)] : List UInt8) from rfl, show yml ++ sFloat = ([(116 : UInt8), (97 : UInt8), (103 : UInt8), (58 : UInt8), (121 : UInt8), (97 : UInt8), (109 : UInt8), (108 : UInt8), (46 : UInt8), (111 : UInt8), (114 : UInt8), (103 : UInt8), (44 : UInt8), (50 : UInt8), (48 : UInt8), (48 : UInt8), (50 : UInt8), (58 : UInt8), (102 : UInt8), (108 : UInt8), (111 : UInt8), (97 : UInt8), (116 : UInt8)] : List UInt8) from rfl]
  generalize (tag == ([(116 : UInt8), (97 : UInt8), (103 : UInt8), (58 : UInt8), (121 : UInt8), (97 : UInt8), (109 : UInt8), (108 : UInt8), (46 : UInt8), (111 : UInt8), (114 : UInt8), (103 : UInt8), (44 : UInt8), (50 : UInt8), (48 : UInt8), (48 : UInt8), (50 : UInt8), (58 : UInt8), (110 : UInt8), (117 : UInt8), (108 : UInt8), (108 : UInt8)] : List UInt8)) = x1
  generalize (tag == ([(116 : UInt8), (97 : UInt8), (103 : UInt8), (58 : UInt8), (121 : UInt8), (97 : UInt8), (109 : UInt8), (108 : UInt8), (46 : UInt8), (111 : UInt8), (114 : UInt8), (103 : UInt8), (44 : UInt8), (50 : UInt8), (48 : UInt8), (48 : UInt8), (50 : UInt8), (58 : UInt8), (98 : UInt8), (111 : UInt8), (111 : UInt8), (108 : UInt8)] : List UInt8)) = x2
  generalize (tag == ([(116 : UInt8), (97 : UInt8), (103 : UInt8), (58 : UInt8), (121 : UInt8), (97 : UInt8), (109 : UInt8), (108 : UInt8), (46 : UInt8), (111 : UInt8), (114 : UInt8), (103 : UInt8), (44 : UInt8), (50 : UInt8), (48 : UInt8), (48 : UInt8), (50 : UInt8), (58 : UInt8), (105 : UInt8), (110 : UInt8), (116 : UInt8)] : List UInt8)) = x3
  generalize (tag == ([(116 : UInt8), (97 : UInt8), (103 : UInt8), (58 : UInt8), (121 : UInt8), (97 : UInt8), (109 : UInt8), (108 : UInt8), (46 : UInt8), (111 : UInt8), (114 : UInt8), (103 : UInt8), (44 : UInt8), (50 : UInt8), (48 : UInt8), (48 : UInt8), (50 : UInt8), (58 : UInt8), (102 : UInt8), (108 : UInt8), (111 : UInt8), (97 : UInt8), (116 : UInt8)] : List UInt8)) = x4
  generalize iv s = i
  generalize fl s = f
  obtain ⟨⟨i1, i2, i3, i4⟩, i5, i6⟩ := i
  obtain ⟨⟨f1, f2, f3, f4⟩, f5, f6⟩ := f
  cases x1 with
  | true => cases nul s <;> rfl
  | false =>
    cases x2 with
    | true => cases tru s <;> cases fls s <;> rfl
    | false =>
      cases x3 with
      | true => cases i5 <;> rfl
      | false =>
        cases x4 with
        | true => cases f5 <;> cases i5 <;> rfl
        | false => rfl
end Go.Proofs.YtnddpppljnjmcaaGreatDoor.V
/- Equal nodes: what the program tells of two nodes is whether each pair that is come to from them is alike. -/
namespace Go.Proofs.YtnddpppljnjmcaaGreatDoor
open Go Go.Iv Go.Gv V
set_option maxRecDepth 10000
def nv (v : Vl) : Vl :=
  if v.1 = 2 then (2, (v.2.1, (zN, []))) else
  if v.1 = 3 then (3, (false, (v.2.2.1, []))) else
  if v.1 = 4 then (4, (false, (v.2.2.1, []))) else
  if v.1 = 5 then (5, (false, (zN, v.2.2.2))) else (v.1, (false, (zN, [])))
theorem num_eq {a b : Bool × (List UInt8 × (Int × Int))} : (bif (a.1 == b.1) then
        bif (a.2.1 == b.2.1) then
          bif (a.2.2.1 == b.2.2.1) then
            some (a.2.2.2 == b.2.2.2)
          else
          some Bool.false
        else
        some Bool.false
      else
      some Bool.false) = some (decide (a = b)) := by
  obtain ⟨a1, a2, a3, a4⟩ := a
  obtain ⟨b1, b2, b3, b4⟩ := b
  simp only [Prod.mk.injEq]
  have dq : ∀ {α : Type} [BEq α] [LawfulBEq α] [DecidableEq α] (x y : α), (x == y) = decide (x = y) := by
    intro α _ _ _ x y
    rw [Bool.eq_iff_iff, beq_iff_eq, decide_eq_true_iff]
  rw [dq a1 b1, dq a2 b2, dq a3 b3, dq a4 b4]
  by_cases h1 : a1 = b1 <;> by_cases h2 : a2 = b2 <;> by_cases h3 : a3 = b3 <;> by_cases h4 : a4 = b4 <;> simp [h1, h2, h3, h4]
theorem valuesE_spec (n : Nat) (v w : Vl) : valuesE n v w = some (decide (nv v = nv w), ()) := by
  unfold valuesE
  by_cases h : v.1 = w.1
  · have hb : (v.1 != w.1) = false := by simp [h]
    rw [hb, cond_false]
    unfold nv
    rw [← h]
    by_cases h2 : v.1 = 2
    · have hb : (v.1 == (2 : Int)) = true := by simp [h2]
      rw [hb, cond_true]
      simp only [h2, if_true, Prod.mk.injEq, _root_.and_true, true_and]
      by_cases ht : v.2.1 = w.2.1 <;> simp [ht]
    · have hb : (v.1 == (2 : Int)) = false := by simp [h2]
      rw [hb, cond_false]
      simp only [if_neg h2]
      by_cases h3 : v.1 = 3
      · have hb : (v.1 == (3 : Int)) = true := by simp [h3]
        rw [hb, cond_true, num_eq, Option.bind_some]
        simp only [h3, if_true, Prod.mk.injEq, _root_.and_true, true_and]
      · have hb : (v.1 == (3 : Int)) = false := by simp [h3]
        rw [hb, cond_false]
        simp only [if_neg h3]
        by_cases h4 : v.1 = 4
        · have hb : (v.1 == (4 : Int)) = true := by simp [h4]
          rw [hb, cond_true, num_eq, Option.bind_some]
          simp only [h4, if_true, Prod.mk.injEq, _root_.and_true, true_and]
        · have hb : (v.1 == (4 : Int)) = false := by simp [h4]
          rw [hb, cond_false]
          simp only [if_neg h4]
          by_cases h5 : v.1 = 5
          · have hb : (v.1 == (5 : Int)) = true := by simp [h5]
            rw [hb, cond_true]
            simp only [h5, if_true, Prod.mk.injEq, true_and]
            by_cases ht : v.2.2.2 = w.2.2.2 <;> simp [ht]
          · have hb : (v.1 == (5 : Int)) = false := by simp [h5]
            rw [hb, cond_false]
            simp only [if_neg h5, decide_true]
  · have hb : (v.1 != w.1) = true := by simp [h]
    rw [hb, cond_true]
    have : nv v ≠ nv w := by
      have key : ∀ u : Vl, (nv u).1 = u.1 := by
        intro u
        unfold nv
        split
        · simp [*]
        · split
          · simp [*]
          · split
            · simp [*]
            · split
              · simp [*]
              · rfl
      intro e
      exact h (by rw [← key v, ← key w, e])
    rw [decide_eq_false this]
abbrev KeyT := Int × (List UInt8 × (Nat × Option (Bool × (Vl × List UInt8))))
abbrev SubT := Bool × (Vl × List UInt8)
instance : DecidableEq Num := inferInstanceAs (DecidableEq (Bool × (List UInt8 × (Int × Int))))
instance : DecidableEq Vl := inferInstanceAs (DecidableEq (Int × (Bool × (Num × List UInt8))))
instance : DecidableEq SubT := inferInstanceAs (DecidableEq (Bool × (Vl × List UInt8)))
instance : DecidableEq KeyT := inferInstanceAs (DecidableEq (Int × (List UInt8 × (Nat × Option SubT))))
def key (x : NodeT) : KeyT :=
  (x.1, (x.2.1, (x.2.2.2.1.length, if x.1 = 1 then some (if (val x.2.1 x.2.2.1).2.1 = 0 then (true, (nv (val x.2.1 x.2.2.1).1, [])) else (false, ((0, (false, (zN, []))), x.2.2.1))) else none)))
theorem alike_spec (n : Nat) (x y : NodeT) (hx : NB x) (hy : NB y) (hn : 27000 ≤ n) : alike n x y = some (decide (key x = key y), ()) := by
  unfold alike key
  obtain ⟨k, t, s, l, p⟩ := x
  obtain ⟨k', t', s', l', p'⟩ := y
  have hs : s.length ≤ 8100 := hx.2.1
  have hs' : s'.length ≤ 8100 := hy.2.1
  simp only [len]
  by_cases h1 : k = k'
  · subst h1
    have hb : (k != k) = false := by simp
    rw [hb, cond_false]
    by_cases h2 : t = t'
    · subst h2
      have hb : (!(t == t)) = false := by simp
      rw [hb, cond_false]
      by_cases h3 : l.length = l'.length
      · have hb : (((l.length : Nat) : Int) != (l'.length : Nat)) = false := by simp [h3]
        simp only [hb, Option.bind_some, cond_false]
        simp only [h3, Prod.mk.injEq, true_and]
        by_cases h4 : k = 1
        · have hb : (k != (1 : Int)) = false := by simp [h4]
          simp only [hb, cond_false, if_pos h4, Option.some.injEq]
          rw [valueS_spec n t s hs hn, valueS_spec n t s' hs' hn]
          simp only [Option.bind_some]
          by_cases e : (val t s).2.1 = 0
          · by_cases f : (val t s').2.1 = 0
            · simp only [e, f, beq_self_eq_true, cond_true, Option.bind_some, valuesE_spec, if_true, Prod.mk.injEq, true_and, _root_.and_true]
            · have hf : ((val t s').2.1 == (0 : Int)) = false := by simp [f]
              simp only [e, hf, beq_self_eq_true, cond_true, Option.bind_some, cond_false, if_true, if_neg f, Prod.mk.injEq, Bool.true_eq_false, false_and, decide_false]
              have : s ≠ s' := by rintro rfl; exact f e
              simp [this]
          · have he : ((val t s).2.1 == (0 : Int)) = false := by simp [e]
            simp only [he, cond_false, Option.bind_some, if_neg e]
            by_cases f : (val t s').2.1 = 0
            · simp only [if_pos f, Prod.mk.injEq, Bool.false_eq_true, false_and, decide_false]
              have : s ≠ s' := by rintro rfl; exact e f
              simp [this]
            · simp only [if_neg f, Prod.mk.injEq, true_and]
              by_cases g : s = s' <;> simp [g]
        · have hb : (k != (1 : Int)) = true := by simp [h4]
          simp only [hb, cond_true, if_neg h4, decide_true]
      · have hb : (((l.length : Nat) : Int) != (l'.length : Nat)) = true := by simp; omega
        simp only [hb, Option.bind_some, cond_true, Prod.mk.injEq, h3, false_and, and_false, decide_false]
    · have hb : (!(t == t')) = true := by simp [h2]
      simp only [hb, cond_true, Option.bind_some, Prod.mk.injEq, h2, false_and, and_false, decide_false]
  · have hb : (k != k') = true := by simp [h1]
    simp only [hb, cond_true, Option.bind_some, Prod.mk.injEq, h1, false_and, decide_false]
end Go.Proofs.YtnddpppljnjmcaaGreatDoor
/- Equal nodes: the loops. -/
namespace Go.Proofs.YtnddpppljnjmcaaGreatDoor
open Go Go.Iv Go.Gv
set_option maxRecDepth 10000
abbrev PairT := Int × Int
def nd (g1 : List NodeT) (a : Int) : NodeT := (g1[a.toNat]?).getD (0, ([], ([], ([], false))))
def kd (g1 : List NodeT) (a : Int) : List Int := (nd g1 a).2.2.2.1
def Step (g1 : List NodeT) (p q : PairT) : Prop := p.1 ≠ p.2 ∧ q ∈ (kd g1 p.1).zip (kd g1 p.2)
inductive Rch (g1 : List NodeT) (p : PairT) : PairT → Prop
  | refl : Rch g1 p p
  | step {q r : PairT} : Rch g1 p q → Step g1 q r → Rch g1 p r
def GoodP (g1 : List NodeT) (p : PairT) : Prop := p.1 = p.2 ∨ key (nd g1 p.1) = key (nd g1 p.2)
def Eqv (g1 : List NodeT) (a b : Int) : Prop := ∀ p, Rch g1 (a, b) p → GoodP g1 p
abbrev KS : Sh := .cons (.int .i64) (.int .i64)
def mkS (S : List PairT) : List (PairT × Bool) := S.map fun p => (p, true)
theorem eqK_pair (x y : PairT) : KS.eqK x y = decide (x = y) := by
  obtain ⟨a, b⟩ := x
  obtain ⟨c, d⟩ := y
  show ((a == c) && (b == d)) = _
  simp only [Prod.mk.injEq]
  by_cases h1 : a = c <;> by_cases h2 : b = d <;> simp [h1, h2]
theorem mgetD_S (S : List PairT) (q : PairT) : mgetD KS (mkS S) q false = decide (q ∈ S) := by
  induction S with
  | nil => rfl
  | cons p r ih =>
    unfold mgetD at ih ⊢
    simp only [mkS, List.map_cons, mget, eqK_pair]
    by_cases h : q = p
    · simp [h]
    · simp only [h, decide_false, cond_false, List.mem_cons, false_or]
      exact ih
theorem mput_S (S : List PairT) (q : PairT) (h : q ∉ S) : mput KS (mkS S) q true = mkS (S ++ [q]) := by
  induction S with
  | nil => rfl
  | cons p r ih =>
    simp only [List.mem_cons, not_or] at h
    simp only [mkS, List.map_cons, mput, eqK_pair, h.1, decide_false, cond_false, List.cons_append]
    have := ih h.2
    simp only [mkS] at this
    rw [this]
def news : List PairT → List PairT → List PairT
  | [], _ => []
  | q :: r, S => if q ∈ S then news r S else q :: news r (S ++ [q])
theorem news_sub : ∀ {z S : List PairT} {q : PairT}, q ∈ news z S → q ∈ z ∧ q ∉ S := by
  intro z
  induction z with
  | nil => intro S q h; cases h
  | cons p r ih =>
    intro S q h
    unfold news at h
    split at h
    · have := ih h; exact ⟨List.mem_cons_of_mem _ this.1, this.2⟩
    · rename_i hp
      rcases List.mem_cons.1 h with rfl | h
      · exact ⟨List.mem_cons_self, hp⟩
      · have := ih h
        exact ⟨List.mem_cons_of_mem _ this.1, fun hq => this.2 (List.mem_append_left _ hq)⟩
theorem news_all : ∀ {z S : List PairT} {q : PairT}, q ∈ z → q ∈ S ++ news z S := by
  intro z
  induction z with
  | nil => intro S q h; cases h
  | cons p r ih =>
    intro S q h
    unfold news
    rcases List.mem_cons.1 h with rfl | h
    · split
      · rename_i hp; exact List.mem_append_left _ hp
      · simp
    · split
      · exact ih h
      · have := ih (S := S ++ [p]) h
        simpa using this
theorem news_nodup : ∀ {z S : List PairT}, S.Nodup → (S ++ news z S).Nodup := by
  intro z
  induction z with
  | nil => intro S h; simpa [news] using h
  | cons p r ih =>
    intro S h
    unfold news
    split
    · exact ih h
    · rename_i hp
      have h2 : (S ++ [p]).Nodup := by
        rw [List.nodup_append]
        refine ⟨h, by simp, fun a ha b hb e => ?_⟩
        simp at hb
        subst hb
        subst e
        exact hp ha
      have := ih h2
      simpa using this
theorem push_loop (l1 l2 : List Int) (hl : l1.length = l2.length) (hb : l1.length ≤ 1000) (c0 : List NodeT) (c1 : List Int) (a b p q k1 : Int) (t1 s1 : List UInt8) (b1 : Bool) (k2 : Int) (t2 s2 : List UInt8) (b2 : Bool) (x1 : List Int) :
    ∀ (m i n : Nat) (w S : List PairT), i + m = l1.length → m + 1 ≤ n → w.length + m ≤ 1000000 →
    L21_12 n w l1 (l1.length : Int) (i : Int) c0 c1 a b (mkS S) p q k1 t1 s1 x1 b1 k2 t2 s2 l2 b2 =
      some (((), ((), (w ++ news ((l1.zip l2).drop i) S, ()))), ((c0, (c1, ())), (((), ()), ((a, (b, ())), (mkS (S ++ news ((l1.zip l2).drop i) S), ((p, (q, ())), ((k1, (t1, (s1, (x1, (b1, ()))))), ((k2, (t2, (s2, (l2, (b2, ()))))), ())))))))) := by
  intro m
  induction m with
  | zero =>
    intro i n w S hi hn hw
    obtain ⟨n, rfl⟩ : ∃ k, n = k + 1 := ⟨n - 1, by omega⟩
    have hz : (l1.zip l2).drop i = [] := by rw [List.drop_eq_nil_iff, List.length_zip]; omega
    simp only [L21_12, ilt_f (show (l1.length : Int) ≤ i by omega), cond_false, hz, news, List.append_nil]
  | succ m ih =>
    intro i n w S hi hn hw
    obtain ⟨n, rfl⟩ : ∃ k, n = k + 1 := ⟨n - 1, by omega⟩
    have e0 : (Int.toNat (i : Int)) = i := rfl
    have hx1 : l1[i]? = some l1[i] := List.getElem?_eq_getElem (by omega)
    have hx2 : l2[i]? = some (l2[i]'(by omega)) := List.getElem?_eq_getElem (by omega)
    have hz : (l1.zip l2).drop i = (l1[i], l2[i]'(by omega)) :: (l1.zip l2).drop (i + 1) := by
      rw [List.drop_eq_getElem_cons (by rw [List.length_zip]; omega), List.getElem_zip]
    have w0 : IntKind.wrap .i64 ((i : Int) + 1) = ((i + 1 : Nat) : Int) := by rw [wrap_id] <;> omega
    generalize l1[i] = u at hx1 hz
    generalize l2[i]'(by omega) = v at hx2 hz
    rw [hz]
    simp only [L21_12, ilt_t (show (i : Int) < l1.length by omega), ile_t (show (0 : Int) ≤ i by omega), cond_true, e0, hx1, hx2, Option.bind_some, w0, mgetD_S, news]
    by_cases hm : (u, v) ∈ S
    · rw [decide_eq_true hm, cond_true, if_pos hm]
      exact ih (i + 1) n w S (by omega) (by omega) (by omega)
    · rw [decide_eq_false hm, cond_false, if_neg hm, roomle (by simp; omega), cond_true, mput_S S _ hm]
      rw [ih (i + 1) n (w ++ [(u, v)]) (S ++ [(u, v)]) (by omega) (by omega) (by simp; omega)]
      simp only [List.append_assoc, List.cons_append, List.nil_append]
theorem len_le_of_sub : ∀ {S L : List PairT}, S.Nodup → (∀ p ∈ S, p ∈ L) → S.length ≤ L.length := by
  intro S
  induction S with
  | nil => intro L _ _; exact Nat.zero_le _
  | cons p r ih =>
    intro L hn hs
    rw [List.nodup_cons] at hn
    have hp : p ∈ L := hs p List.mem_cons_self
    have h1 := ih (L := L.erase p) hn.2 fun q hq => by
      have hne : q ≠ p := fun e => hn.1 (e ▸ hq)
      exact (List.mem_erase_of_ne hne).2 (hs q (List.mem_cons_of_mem _ hq))
    have h2 := List.length_erase_of_mem hp
    have h3 : 0 < L.length := List.length_pos_of_mem hp
    simp only [List.length_cons]
    omega
def allP (N : Nat) : List PairT := (List.range N).flatMap fun (i : Nat) => (List.range N).map fun (j : Nat) => ((i : Int), (j : Int))
theorem sum_const (c : Nat) : ∀ l : List Nat, (l.map fun _ => c).sum = l.length * c := by
  intro l
  induction l with
  | nil => simp
  | cons a r ih => rw [List.map_cons, List.sum_cons, ih, List.length_cons, Nat.add_mul]; omega
theorem allP_len (N : Nat) : (allP N).length = N * N := by
  unfold allP
  rw [List.length_flatMap]
  simp only [List.length_map, List.length_range]
  rw [sum_const, List.length_range]
theorem allP_mem {N : Nat} {p : PairT} (h1 : inB N p.1 = true) (h2 : inB N p.2 = true) : p ∈ allP N := by
  have h1 := of_decide_eq_true h1
  have h2 := of_decide_eq_true h2
  unfold allP
  rw [List.mem_flatMap]
  refine ⟨p.1.toNat, by rw [List.mem_range]; omega, ?_⟩
  rw [List.mem_map]
  refine ⟨p.2.toNat, by rw [List.mem_range]; omega, ?_⟩
  exact Prod.ext (by show ((p.1.toNat : Nat) : Int) = p.1; omega) (by show ((p.2.toNat : Nat) : Int) = p.2; omega)
structure Inv (g1 : List NodeT) (a b : Int) (w S : List PairT) : Prop where
  nd : S.Nodup
  wnd : w.Nodup
  rng : ∀ p ∈ S, inB g1.length p.1 = true ∧ inB g1.length p.2 = true
  rch : ∀ p ∈ S, Rch g1 (a, b) p
  sub : ∀ p ∈ w, p ∈ S
  don : ∀ p ∈ S, p ∉ w → GoodP g1 p ∧ ∀ q, Step g1 p q → q ∈ S
  top : (a, b) ∈ S
def KidsIn (g1 : List NodeT) : Prop := ∀ x ∈ g1, x.2.2.2.1.all (inB g1.length) = true
theorem nd_mem {g1 : List NodeT} {a : Int} (h : inB g1.length a = true) : ∃ x, g1[a.toNat]? = some x ∧ nd g1 a = x ∧ x ∈ g1 := by
  have h := of_decide_eq_true h
  have hx : g1[a.toNat]? = some (g1[a.toNat]'(by omega)) := List.getElem?_eq_getElem (by omega)
  exact ⟨_, hx, by unfold nd; rw [hx]; rfl, List.getElem_mem _⟩
theorem Inv.done {g1 : List NodeT} {a b : Int} {S : List PairT} (h : Inv g1 a b [] S) : Eqv g1 a b := by
  have key : ∀ p, Rch g1 (a, b) p → p ∈ S := by
    intro p hp
    induction hp with
    | refl => exact h.top
    | step _ hs ih => exact (h.don _ ih (by simp)).2 _ hs
  intro p hp
  exact (h.don p (key p hp) (by simp)).1
theorem way_loop (g1 : List NodeT) (g2 : List Int) (a b : Int) (hN : g1.length ≤ 60) (hb : ∀ x ∈ g1, NB x) (hk : KidsIn g1) : ∀ (m n : Nat) (w S : List PairT), Inv g1 a b w S → g1.length * g1.length + w.length = S.length + m → m + 28000 ≤ n →
    ∃ T, L21_4 n w g1 g2 a b (mkS S) = some T ∧ (match T with
      | .inl _ => Eqv g1 a b
      | .inr y => y.1.1 = false ∧ ¬ Eqv g1 a b) := by
  intro m
  induction m using Nat.strongRecOn with
  | ind m ih =>
    intro n w S hI hm hn
    obtain ⟨n, rfl⟩ : ∃ k, n = k + 1 := ⟨n - 1, by omega⟩
    have hSl : S.length ≤ g1.length * g1.length := by
      have := len_le_of_sub hI.nd (L := allP g1.length) fun p hp => allP_mem (hI.rng p hp).1 (hI.rng p hp).2
      rwa [allP_len] at this
    have hwl : w.length ≤ S.length := len_le_of_sub hI.wnd hI.sub
    have hNN : g1.length * g1.length ≤ 60 * 60 := Nat.mul_le_mul hN hN
    by_cases hw : w = []
    · subst hw
      have z : Go.Iv.ilt (0 : Int) (len ([] : List PairT)) = false := ilt_f (by simp [len])
      simp only [L21_4, z, cond_false]
      exact ⟨_, rfl, hI.done⟩
    · obtain ⟨w, p, rfl⟩ : ∃ u p, w = u ++ [p] := ⟨w.dropLast, w.getLast hw, (List.dropLast_concat_getLast hw).symm⟩
      have hpS : p ∈ S := hI.sub p (by simp)
      obtain ⟨hr1, hr2⟩ := hI.rng p hpS
      obtain ⟨x, hx, ex, hxm⟩ := nd_mem hr1
      obtain ⟨y, hy, ey, hym⟩ := nd_mem hr2
      have d1 := of_decide_eq_true hr1
      have d2 := of_decide_eq_true hr2
      simp only [List.length_append, List.length_cons, List.length_nil, Nat.zero_add] at hm hwl
      have hlen : len (w ++ [p]) = ((w.length + 1 : Nat) : Int) := by simp [len]
      have w0 : IntKind.wrap .i64 (((w.length + 1 : Nat) : Int) - 1) = (w.length : Int) := by rw [wrap_id] <;> omega
      have hg : (w ++ [p])[w.length]? = some p := by simp
      have ht : List.take (w.length - 0) (List.drop 0 (w ++ [p])) = w := by simp
      have hpw : p ∉ w := by
        have := hI.wnd
        rw [List.nodup_append] at this
        exact fun h => this.2.2 p h p (by simp) rfl
      have hwnd : w.Nodup := by
        have := hI.wnd
        rw [List.nodup_append] at this
        exact this.1
      simp only [L21_4, hlen, w0, ilt_t (show (0 : Int) < ((w.length + 1 : Nat) : Int) by omega), ile_t (show (0 : Int) ≤ (w.length : Int) by omega), ilt_t (show (w.length : Int) < ((w.length + 1 : Nat) : Int) by omega), ile_t (show (w.length : Int) ≤ ((w.length + 1 : Nat) : Int) by omega), Bool.and_self, cond_true, Int.toNat_natCast, hg, Option.bind_some, ile_t d1.1, ile_t d2.1, hx, hy, ht]
      by_cases he : p.1 = p.2
      · have hb1 : (p.1 == p.2) = true := by simp [he]
        rw [hb1, cond_true]
        refine ih (m - 1) (by omega) n w S ⟨hI.nd, hwnd, hI.rng, hI.rch, fun q hq => hI.sub q (by simp [hq]), fun q hq hqw => ?_, hI.top⟩ (by omega) (by omega)
        by_cases hqp : q = p
        · subst hqp
          exact ⟨.inl he, fun r hr => absurd he hr.1⟩
        · exact hI.don q hq (by simp [hqw, hqp])
      · have hb1 : (p.1 == p.2) = false := by simp [he]
        rw [hb1, cond_false, alike_spec (n + 1) _ _ (hb x hxm) (hb y hym) (by omega), Option.bind_some]
        by_cases hkk : key x = key y
        · rw [decide_eq_true hkk]
          have hll : x.2.2.2.1.length = y.2.2.2.1.length := by
            have := congrArg (fun k : KeyT => k.2.2.1) hkk
            exact this
          have hxb := (hb x hxm).2.2
          have hpl := push_loop x.2.2.2.1 y.2.2.2.1 hll (by omega) g1 g2 a b p.1 p.2 x.1 x.2.1 x.2.2.1 x.2.2.2.2 y.1 y.2.1 y.2.2.1 y.2.2.2.2 x.2.2.2.1 x.2.2.2.1.length 0 (n + 11) w S (by omega) (by omega) (by omega)
          simp only [Int.natCast_zero, List.drop_zero] at hpl
          simp only [Bool.not_true, cond_false, len]
          rw [hpl, Option.bind_some]
          simp only []
          have hst : ∀ q, q ∈ (x.2.2.2.1).zip (y.2.2.2.1) → Step g1 p q := fun q hq => ⟨he, by unfold kd; rw [ex, ey]; exact hq⟩
          have hnr : ∀ q ∈ news ((x.2.2.2.1).zip (y.2.2.2.1)) S, inB g1.length q.1 = true ∧ inB g1.length q.2 = true := fun q hq => by
            have h1 := (news_sub hq).1
            obtain ⟨q1, q2⟩ := q
            have h2 := List.of_mem_zip h1
            exact ⟨List.all_eq_true.1 (hk x hxm) _ h2.1, List.all_eq_true.1 (hk y hym) _ h2.2⟩
          have hnd := news_nodup (z := (x.2.2.2.1).zip (y.2.2.2.1)) hI.nd
          have hI2 : Inv g1 a b (w ++ news ((x.2.2.2.1).zip (y.2.2.2.1)) S) (S ++ news ((x.2.2.2.1).zip (y.2.2.2.1)) S) := by
            refine ⟨hnd, ?_, fun q hq => ?_, fun q hq => ?_, fun q hq => ?_, fun q hq hqw => ?_, List.mem_append_left _ hI.top⟩
            · rw [List.nodup_append] at hnd ⊢
              exact ⟨hwnd, hnd.2.1, fun u hu v hv => hnd.2.2 u (hI.sub u (by simp [hu])) v hv⟩
            · rcases List.mem_append.1 hq with hq | hq
              · exact hI.rng q hq
              · exact hnr q hq
            · rcases List.mem_append.1 hq with hq | hq
              · exact hI.rch q hq
              · exact .step (hI.rch p hpS) (hst q (news_sub hq).1)
            · rcases List.mem_append.1 hq with hq | hq
              · exact List.mem_append_left _ (hI.sub q (by simp [hq]))
              · exact List.mem_append_right _ hq
            · simp only [List.mem_append, not_or] at hqw
              rcases List.mem_append.1 hq with hq | hq
              · by_cases hqp : q = p
                · subst hqp
                  refine ⟨.inr (by rw [ex, ey]; exact hkk), fun r hr => ?_⟩
                  have hr2 := hr.2
                  unfold kd at hr2
                  rw [ex, ey] at hr2
                  exact news_all hr2
                · obtain ⟨h1, h2⟩ := hI.don q hq (by simp [hqw.1, hqp])
                  exact ⟨h1, fun r hr => List.mem_append_left _ (h2 r hr)⟩
              · exact absurd hq hqw.2
          have hSl2 : (S ++ news ((x.2.2.2.1).zip (y.2.2.2.1)) S).length ≤ g1.length * g1.length := by
            have := len_le_of_sub hI2.nd (L := allP g1.length) fun p hp => allP_mem (hI2.rng p hp).1 (hI2.rng p hp).2
            rwa [allP_len] at this
          refine ih (m - 1) (by omega) n _ _ hI2 (by simp only [List.length_append] at hSl2 ⊢; omega) (by omega)
        · rw [decide_eq_false hkk]
          simp only [Bool.not_false, cond_true]
          refine ⟨_, rfl, rfl, fun hE => ?_⟩
          rcases hE p (hI.rch p hpS) with h1 | h1
          · exact he h1
          · rw [ex, ey] at h1; exact hkk h1
theorem equalG_spec (n : Nat) (g : GraphT) (a b : Int) (hN : g.1.length ≤ 60) (hb : ∀ x ∈ g.1, NB x) (hk : KidsIn g.1) (ha : inB g.1.length a = true) (hb2 : inB g.1.length b = true) (hn : 32000 ≤ n) :
    ∃ r, equalG n g a b = some (r, ()) ∧ (r = true ↔ Eqv g.1 a b) := by
  have hI : Inv g.1 a b [(a, b)] [(a, b)] := by
    refine ⟨by simp, by simp, fun p hp => ?_, fun p hp => ?_, fun p hp => hp, fun p hp h => absurd hp h, by simp⟩
    · simp at hp; subst hp; exact ⟨ha, hb2⟩
    · simp at hp; subst hp; exact .refl
  have hNN : g.1.length * g.1.length ≤ 60 * 60 := Nat.mul_le_mul hN hN
  obtain ⟨T, h1, h2⟩ := way_loop g.1 g.2 a b hN hb hk (g.1.length * g.1.length) n [(a, b)] [(a, b)] hI (by simp; omega) (by omega)
  unfold equalG
  have hm : mput KS [] (a, b) Bool.true = mkS [(a, b)] := rfl
  show ∃ r, (Option.bind (L21_4 n [(a, b)] g.1 g.2 a b (mput KS [] (a, b) Bool.true)) fun y21 => _) = some (r, ()) ∧ _
  rw [hm, h1, Option.bind_some]
  cases T with
  | inl y => exact ⟨true, rfl, by simp [h2]⟩
  | inr y =>
    simp only at h2
    refine ⟨y.1.1, rfl, ?_⟩
    rw [h2.1]
    simp [h2.2]
end Go.Proofs.YtnddpppljnjmcaaGreatDoor
/- Plain functions for the program's. -/
namespace Go.Proofs.YtnddpppljnjmcaaGreatDoor
open Go Go.Iv Go.Gv
set_option maxRecDepth 100000
set_option linter.unusedVariables false
noncomputable def alive (n : Nat) : Option (Bool × Unit) :=
 Option.bind (sameEqual n ((((1 : Int), (([(116 : UInt8), (97 : UInt8), (103 : UInt8), (58 : UInt8), (121 : UInt8), (97 : UInt8), (109 : UInt8), (108 : UInt8), (46 : UInt8), (111 : UInt8), (114 : UInt8), (103 : UInt8), (44 : UInt8), (50 : UInt8), (48 : UInt8), (48 : UInt8), (50 : UInt8), (58 : UInt8), (105 : UInt8), (110 : UInt8), (116 : UInt8)] : List UInt8), (([(49 : UInt8)] : List UInt8), (([] : List Int), false)))) :: (((1 : Int), (([(116 : UInt8), (97 : UInt8), (103 : UInt8), (58 : UInt8), (121 : UInt8), (97 : UInt8), (109 : UInt8), (108 : UInt8), (46 : UInt8), (111 : UInt8), (114 : UInt8), (103 : UInt8), (44 : UInt8), (50 : UInt8), (48 : UInt8), (48 : UInt8), (50 : UInt8), (58 : UInt8), (105 : UInt8), (110 : UInt8), (116 : UInt8)] : List UInt8), (([(48 : UInt8), (120 : UInt8), (49 : UInt8)] : List UInt8), (([] : List Int), false)))) :: (((1 : Int), (([(116 : UInt8), (97 : UInt8), (103 : UInt8), (58 : UInt8), (121 : UInt8), (97 : UInt8), (109 : UInt8), (108 : UInt8), (46 : UInt8), (111 : UInt8), (114 : UInt8), (103 : UInt8), (44 : UInt8), (50 : UInt8), (48 : UInt8), (48 : UInt8), (50 : UInt8), (58 : UInt8), (115 : UInt8), (116 : UInt8), (114 : UInt8)] : List UInt8), (([(49 : UInt8)] : List UInt8), (([] : List Int), false)))) :: []))), ([] : List Int)) (0 : Int) (1 : Int)) fun y0 =>
 bif y0.1 then
  Option.bind (sameEqual n ((((1 : Int), (([(116 : UInt8), (97 : UInt8), (103 : UInt8), (58 : UInt8), (121 : UInt8), (97 : UInt8), (109 : UInt8), (108 : UInt8), (46 : UInt8), (111 : UInt8), (114 : UInt8), (103 : UInt8), (44 : UInt8), (50 : UInt8), (48 : UInt8), (48 : UInt8), (50 : UInt8), (58 : UInt8), (105 : UInt8), (110 : UInt8), (116 : UInt8)] : List UInt8), (([(49 : UInt8)] : List UInt8), (([] : List Int), false)))) :: (((1 : Int), (([(116 : UInt8), (97 : UInt8), (103 : UInt8), (58 : UInt8), (121 : UInt8), (97 : UInt8), (109 : UInt8), (108 : UInt8), (46 : UInt8), (111 : UInt8), (114 : UInt8), (103 : UInt8), (44 : UInt8), (50 : UInt8), (48 : UInt8), (48 : UInt8), (50 : UInt8), (58 : UInt8), (105 : UInt8), (110 : UInt8), (116 : UInt8)] : List UInt8), (([(48 : UInt8), (120 : UInt8), (49 : UInt8)] : List UInt8), (([] : List Int), false)))) :: (((1 : Int), (([(116 : UInt8), (97 : UInt8), (103 : UInt8), (58 : UInt8), (121 : UInt8), (97 : UInt8), (109 : UInt8), (108 : UInt8), (46 : UInt8), (111 : UInt8), (114 : UInt8), (103 : UInt8), (44 : UInt8), (50 : UInt8), (48 : UInt8), (48 : UInt8), (50 : UInt8), (58 : UInt8), (115 : UInt8), (116 : UInt8), (114 : UInt8)] : List UInt8), (([(49 : UInt8)] : List UInt8), (([] : List Int), false)))) :: []))), ([] : List Int)) (0 : Int) (2 : Int)) fun y1 =>
  some ((!y1.1), ())
 else
 some (false, ())
noncomputable def alive_it : FnIt := ⟨8, [], [(false, .bool)], 13, fun n _ => alive n⟩
theorem alive_ok (n : Nat) : FnOK Tryz.prog hint shT alive_it n :=
  FnOK.of (hk := fun β => (Known.mk [sameEqual_it] []).hk β) (sh := shT) (fun m _ => KnownOK.hook (KnownOK.nil.fn sameEqual_ok) m) (fun x => by kernel_rfl)
noncomputable def L3_14_Xexit0 : Tm := ⟨[], [(64, .cells 25 [.lst (.cons (.int .i64) (.cons .str (.cons .str (.cons (.slc (.int .i64)) .bool)))), .lst (.int .i64)] true)], 65, 65, 1001⟩
noncomputable def L3_14_Xret : Tm := ⟨[(8, .one (.bool))], [(64, .cells 25 [.lst (.cons (.int .i64) (.cons .str (.cons .str (.cons (.slc (.int .i64)) .bool)))), .lst (.int .i64)] true)], 65, 65, 1001⟩
noncomputable def L3_14_T : Tm := ⟨[(4, .one (.fix (TV.ptr 64 0))), (11, .one (.bool)), (13, .one (.lst (.int .i64))), (14, .one (.lst (.int .i64))), (15, .one (.int .i64))], [(64, .cells 25 [.lst (.cons (.int .i64) (.cons .str (.cons .str (.cons (.slc (.int .i64)) .bool)))), .lst (.int .i64)] true)], 65, 65, 1001⟩
noncomputable def L3_14 : Nat → Bool → (List Int) → (List Int) → Int → (List (Int × (List UInt8 × (List UInt8 × (List Int × Bool))))) → (List Int) → Option ((Unit × (((List (Int × (List UInt8 × (List UInt8 × (List Int × Bool))))) × ((List Int) × Unit)) × Unit)) ⊕ ((Bool × Unit) × (((List (Int × (List UInt8 × (List UInt8 × (List Int × Bool))))) × ((List Int) × Unit)) × Unit)))
 | 0, _, _, _, _, _, _ => none
 | n + 1, t11, t13, t14, t15, c64_0, c64_1 =>
  Option.bind (bif (ilt t15 (len t13)) then
    some t11
   else
   some false) fun b25 =>
  bif b25 then
   bif (ile (0 : Int) t15) then
   Option.bind (t13[(Int.toNat t15)]?) fun x26 =>
   bif (ile (0 : Int) t15) then
   Option.bind (t14[(Int.toNat t15)]?) fun x27 =>
   Option.bind (sameEqual (n + 1) (c64_0, c64_1) x26 x27) fun y28 =>
   bif (!y28.1) then
    some (.inr ((false, ()), ((c64_0, (c64_1, ())), ())))
   else
   L3_14 n t11 t13 t14 (IntKind.wrap .i64 (t15 + (1 : Int))) c64_0 c64_1
   else none
   else none
  else
  some (.inl ((), ((c64_0, (c64_1, ())), ())))
noncomputable def L3_14_it : LoopIt := ⟨3, 14, none, L3_14_T, [(.exit 0, L3_14_Xexit0), (.ret, L3_14_Xret)], 13, fun n x => L3_14 n x.1.2.1 x.1.2.2.1 x.1.2.2.2.1 x.1.2.2.2.2.1 x.2.1.1 x.2.1.2.1⟩
theorem L3_14_Xexit0_ok : L3_14_Xexit0.ok Tryz.prog hint := by
  intro p hp
  simp only [L3_14_Xexit0, List.mem_cons, List.not_mem_nil, or_false] at hp
  rcases hp with rfl
  · trivial
theorem L3_14_Xret_ok : L3_14_Xret.ok Tryz.prog hint := by
  intro p hp
  simp only [L3_14_Xret, List.mem_cons, List.not_mem_nil, or_false] at hp
  rcases hp with rfl
  · trivial
theorem L3_14_T_ok : L3_14_T.ok Tryz.prog hint := by
  intro p hp
  simp only [L3_14_T, List.mem_cons, List.not_mem_nil, or_false] at hp
  rcases hp with rfl
  · trivial
theorem L3_14_ok : ∀ n, LoopOK Tryz.prog hint shT L3_14_it n :=
  LoopOK.of (hk := fun β => (Known.mk [sameEqual_it] []).hk β) (sh := shT) (OneLoop.of (by kernel_rfl)) L3_14_T_ok ⟨⟨L3_14_Xexit0_ok, Nat.le_refl _, Nat.le_refl _⟩, ⟨L3_14_Xret_ok, Nat.le_refl _, Nat.le_refl _⟩, trivial⟩ (fun m => KnownOK.hook (KnownOK.nil.fn sameEqual_ok) m)
    (fun _ => by kernel_rfl) (fun m x => by kernel_rfl)
noncomputable def sameLaws (n : Nat) (g : (List (Int × (List UInt8 × (List UInt8 × (List Int × Bool)))) × List Int)) (a : Int) (b : Int) (c : Int) : Option (Bool × Unit) :=
 Option.bind (alive n ) fun y0 =>
 Option.bind (big (n + 12) (g.1, g.2)) fun y1 =>
 bif (!y0.1) then
  some (y0.1, ())
 else
 bif y1.1 then
  some (y0.1, ())
 else
 Option.bind (mayR (n + 6) (g.1, g.2) a) fun y2 =>
 bif (!y2.1) then
  some (y0.1, ())
 else
 Option.bind (mayR (n + 6) (g.1, g.2) b) fun y3 =>
 bif (!y3.1) then
  some (y0.1, ())
 else
 Option.bind (mayR (n + 6) (g.1, g.2) c) fun y4 =>
 bif (!y4.1) then
  some (y0.1, ())
 else
 Option.bind (sameEqual (n + 1) (g.1, g.2) a b) fun y5 =>
 Option.bind (sameEqual (n + 1) (g.1, g.2) b c) fun y6 =>
 Option.bind (sameEqual (n + 1) (g.1, g.2) a a) fun y7 =>
 bif (!y7.1) then
  some (false, ())
 else
 Option.bind (sameEqual (n + 1) (g.1, g.2) b a) fun y8 =>
 bif (!(y5.1 == y8.1)) then
  some (false, ())
 else
 bif y5.1 then
  bif y6.1 then
   Option.bind (sameEqual (n + 1) (g.1, g.2) a c) fun y9 =>
   bif (!y9.1) then
    some (false, ())
   else
   bif (ile (0 : Int) a) then
   Option.bind (g.1[(Int.toNat a)]?) fun x10 =>
   bif (ile (0 : Int) b) then
   Option.bind (g.1[(Int.toNat b)]?) fun x11 =>
   Option.bind (bif y5.1 then
     some ((len x10.2.2.2.1) != (len x11.2.2.2.1))
    else
    some false) fun b13 =>
   bif b13 then
    some (false, ())
   else
   Option.bind (L3_14 (n + 1) y5.1 x10.2.2.2.1 x11.2.2.2.1 (0 : Int) g.1 g.2) fun y29 =>
   match y29 with
    | .inl _ =>
     some (true, ())
    | .inr y31 =>
     some (y31.1.1, ())
   else none
   else none
  else
  bif (ile (0 : Int) a) then
  Option.bind (g.1[(Int.toNat a)]?) fun x32 =>
  bif (ile (0 : Int) b) then
  Option.bind (g.1[(Int.toNat b)]?) fun x33 =>
  Option.bind (bif y5.1 then
    some ((len x32.2.2.2.1) != (len x33.2.2.2.1))
   else
   some false) fun b35 =>
  bif b35 then
   some (false, ())
  else
  Option.bind (L3_14 (n + 1) y5.1 x32.2.2.2.1 x33.2.2.2.1 (0 : Int) g.1 g.2) fun y36 =>
  match y36 with
   | .inl _ =>
    some (true, ())
   | .inr y38 =>
    some (y38.1.1, ())
  else none
  else none
 else
 bif (ile (0 : Int) a) then
 Option.bind (g.1[(Int.toNat a)]?) fun x39 =>
 bif (ile (0 : Int) b) then
 Option.bind (g.1[(Int.toNat b)]?) fun x40 =>
 Option.bind (bif y5.1 then
   some ((len x39.2.2.2.1) != (len x40.2.2.2.1))
  else
  some false) fun b42 =>
 bif b42 then
  some (false, ())
 else
 Option.bind (L3_14 (n + 1) y5.1 x39.2.2.2.1 x40.2.2.2.1 (0 : Int) g.1 g.2) fun y43 =>
 match y43 with
  | .inl _ =>
   some (true, ())
  | .inr y45 =>
   some (y45.1.1, ())
 else none
 else none
noncomputable def sameLaws_it : FnIt := ⟨3, [(true, (.cons (.slc (.cons (.int .i64) (.cons .str (.cons .str (.cons (.slc (.int .i64)) .bool))))) (.slc (.int .i64)))), (false, (.int .i64)), (false, (.int .i64)), (false, (.int .i64))], [(false, .bool)], 14, fun n x => sameLaws n x.1 x.2.1 x.2.2.1 x.2.2.2.1⟩
theorem sameLaws_ok (n : Nat) : FnOK Tryz.prog hint shT sameLaws_it n :=
  FnOK.of (hk := fun β => (Known.mk [sameEqual_it, mayR_it, big_it, alive_it] [L3_14_it]).hk β) (sh := shT) (fun m _ => KnownOK.hook (((((KnownOK.nil.fn alive_ok).fn big_ok).fn mayR_ok).fn sameEqual_ok).loop L3_14_ok L3_14_T_ok) m) (fun x => by kernel_rfl)
end Go.Proofs.YtnddpppljnjmcaaGreatDoor
/- Equal nodes: the laws. -/
namespace Go.Proofs.YtnddpppljnjmcaaGreatDoor
open Go Go.Iv Go.Gv
set_option maxRecDepth 10000
theorem Eqv.refl (g1 : List NodeT) (a : Int) : Eqv g1 a a := by
  have key : ∀ p, Rch g1 (a, a) p → p = (a, a) := by
    intro p hp
    induction hp with
    | refl => rfl
    | step _ hs ih => subst ih; exact absurd rfl hs.1
  intro p hp
  rw [key p hp]; exact .inl rfl
def Bis (g1 : List NodeT) (R : Int → Int → Prop) : Prop := ∀ x y, R x y → x = y ∨ (key (nd g1 x) = key (nd g1 y) ∧ ∀ q ∈ (kd g1 x).zip (kd g1 y), R q.1 q.2)
theorem Eqv.bis {g1 : List NodeT} {a b : Int} (h : Eqv g1 a b) : ∃ R, R a b ∧ Bis g1 R := by
  refine ⟨fun x y => Rch g1 (a, b) (x, y), .refl, fun x y hr => ?_⟩
  by_cases he : x = y
  · exact .inl he
  · refine .inr ⟨?_, fun q hq => .step hr ⟨he, hq⟩⟩
    rcases h _ hr with h1 | h1
    · exact absurd h1 he
    · exact h1
theorem Eqv.of {g1 : List NodeT} {a b : Int} {R : Int → Int → Prop} (h0 : R a b) (h : Bis g1 R) : Eqv g1 a b := by
  have key : ∀ p, Rch g1 (a, b) p → R p.1 p.2 := by
    intro p hp
    induction hp with
    | refl => exact h0
    | step _ hs ih =>
      rcases h _ _ ih with h1 | h1
      · exact absurd h1 hs.1
      · exact h1.2 _ hs.2
  intro p hp
  rcases h _ _ (key p hp) with h1 | h1
  · exact .inl h1
  · exact .inr h1.1
theorem zip_at {l k : List Int} {q : Int × Int} (h : q ∈ l.zip k) : ∃ i : Nat, ∃ h1 : i < l.length, ∃ h2 : i < k.length, q = (l[i], k[i]) := by
  obtain ⟨i, hi, e⟩ := List.mem_iff_getElem.1 h
  rw [List.length_zip] at hi
  refine ⟨i, by omega, by omega, ?_⟩
  rw [← e, List.getElem_zip]
theorem at_zip {l k : List Int} {i : Nat} (h1 : i < l.length) (h2 : i < k.length) : (l[i], k[i]) ∈ l.zip k := by
  rw [List.mem_iff_getElem]
  exact ⟨i, by rw [List.length_zip]; omega, by rw [List.getElem_zip]⟩
theorem key_len {x y : NodeT} (h : key x = key y) : x.2.2.2.1.length = y.2.2.2.1.length := congrArg (fun k : KeyT => k.2.2.1) h
theorem Eqv.symm {g1 : List NodeT} {a b : Int} (h : Eqv g1 a b) : Eqv g1 b a := by
  obtain ⟨R, h0, hR⟩ := h.bis
  refine Eqv.of (R := fun x y => R y x) h0 fun x y hr => ?_
  rcases hR _ _ hr with h1 | ⟨h1, h2⟩
  · exact .inl h1.symm
  · refine .inr ⟨h1.symm, fun q hq => ?_⟩
    obtain ⟨i, i1, i2, rfl⟩ := zip_at hq
    exact h2 _ (at_zip i2 i1)
theorem Eqv.trans {g1 : List NodeT} {a b c : Int} (h : Eqv g1 a b) (k : Eqv g1 b c) : Eqv g1 a c := by
  obtain ⟨R, r0, hR⟩ := h.bis
  obtain ⟨S, s0, hS⟩ := k.bis
  refine Eqv.of (R := fun x z => R x z ∨ S x z ∨ ∃ y, R x y ∧ S y z) (.inr (.inr ⟨b, r0, s0⟩)) fun x z hr => ?_
  have left : ∀ {x z}, R x z → x = z ∨ (key (nd g1 x) = key (nd g1 z) ∧ ∀ q ∈ (kd g1 x).zip (kd g1 z), (R q.1 q.2 ∨ S q.1 q.2 ∨ ∃ y, R q.1 y ∧ S y q.2)) := fun hr => by
    rcases hR _ _ hr with h1 | ⟨h1, h2⟩
    · exact .inl h1
    · exact .inr ⟨h1, fun q hq => .inl (h2 q hq)⟩
  have right : ∀ {x z}, S x z → x = z ∨ (key (nd g1 x) = key (nd g1 z) ∧ ∀ q ∈ (kd g1 x).zip (kd g1 z), (R q.1 q.2 ∨ S q.1 q.2 ∨ ∃ y, R q.1 y ∧ S y q.2)) := fun hr => by
    rcases hS _ _ hr with h1 | ⟨h1, h2⟩
    · exact .inl h1
    · exact .inr ⟨h1, fun q hq => .inr (.inl (h2 q hq))⟩
  rcases hr with hr | hr | ⟨y, h1, h2⟩
  · exact left hr
  · exact right hr
  · rcases hR _ _ h1 with e | ⟨k1, r1⟩
    · subst e; exact right h2
    · rcases hS _ _ h2 with e | ⟨k2, r2⟩
      · subst e; exact left h1
      · refine .inr ⟨k1.trans k2, fun q hq => ?_⟩
        obtain ⟨i, i1, i2, rfl⟩ := zip_at hq
        have i3 : i < (kd g1 y).length := by
          have := key_len k1
          unfold kd at i1 ⊢; omega
        exact .inr (.inr ⟨(kd g1 y)[i], r1 ((kd g1 x)[i], (kd g1 y)[i]) (at_zip i1 i3), r2 ((kd g1 y)[i], (kd g1 z)[i]) (at_zip i3 i2)⟩)
theorem Rch.from {g1 : List NodeT} {p q r : PairT} (h : Rch g1 p q) (k : Rch g1 q r) : Rch g1 p r := by
  induction k with
  | refl => exact h
  | step _ hs ih => exact .step ih hs
theorem Eqv.kids {g1 : List NodeT} {a b : Int} (h : Eqv g1 a b) {q : PairT} (hq : q ∈ (kd g1 a).zip (kd g1 b)) : Eqv g1 q.1 q.2 := by
  by_cases he : a = b
  · subst he
    obtain ⟨i, i1, i2, rfl⟩ := zip_at hq
    exact Eqv.refl _ _
  · exact fun p hp => h p (Rch.from (.step .refl ⟨he, hq⟩) hp)
theorem Eqv.len {g1 : List NodeT} {a b : Int} (h : Eqv g1 a b) : (kd g1 a).length = (kd g1 b).length := by
  rcases h _ .refl with h1 | h1
  · rw [show a = b from h1]
  · exact key_len h1
open Classical in
noncomputable def eqB (g1 : List NodeT) (a b : Int) : Bool := decide (Eqv g1 a b)
theorem eqB_t {g1 : List NodeT} {a b : Int} (h : Eqv g1 a b) : eqB g1 a b = true := by classical unfold eqB; exact decide_eq_true h
theorem eqB_of {g1 : List NodeT} {a b : Int} (h : eqB g1 a b = true) : Eqv g1 a b := by classical unfold eqB at h; exact of_decide_eq_true h
structure Fine (g : GraphT) : Prop where
  gb : GB g
  r : rightG g = true
theorem Fine.kids {g : GraphT} (h : Fine g) : KidsIn g.1 := fun x hx => by
  have h1 := h.r
  unfold rightG at h1
  have h2 := List.all_eq_true.1 (Go.Gv.and_true h1).2 x hx
  exact (Go.Gv.and_true h2).2
theorem mayR_spec (n : Nat) (g : GraphT) (a : Int) (hg : GB g) (hn : 20000 ≤ n) : mayR n g a = some (rightG g && inB g.1.length a, ()) := by
  unfold mayR
  rw [show ((g.1, g.2) : GraphT) = g from rfl, rightR_G n g hg hn, Option.bind_some]
  cases rightG g with
  | false => rfl
  | true =>
    simp only [cond_true, Bool.true_and, inB, len]
    by_cases h1 : (0 : Int) ≤ a
    · rw [ile_t h1, cond_true]
      by_cases h2 : a < (g.1.length : Int)
      · rw [ilt_t h2, decide_eq_true ⟨h1, h2⟩]
      · rw [ilt_f (by omega), decide_eq_false (by omega)]
    · rw [ile_f (by omega), decide_eq_false (by omega)]; rfl
theorem equal_spec (n : Nat) (g : GraphT) (a b : Int) (hg : Fine g) (ha : inB g.1.length a = true) (hb : inB g.1.length b = true) (hn : 40000 ≤ n) : sameEqual n g a b = some (eqB g.1 a b, ()) := by
  obtain ⟨r, h1, h2⟩ := equalG_spec n g a b hg.gb.n hg.gb.b hg.kids ha hb (by omega)
  have d1 := of_decide_eq_true ha
  have d2 := of_decide_eq_true hb
  unfold sameEqual
  rw [show ((g.1, g.2) : GraphT) = g from rfl]
  simp only [len, ile_t d1.1, ilt_t d1.2, ile_t d2.1, ilt_t d2.2, cond_true]
  rw [right_G (n + 4) g hg.gb (by omega), Option.bind_some, hg.r]
  simp only [cond_true]
  rw [h1, Option.bind_some]
  have : r = eqB g.1 a b := by
    cases hr : r with
    | true => exact (eqB_t (h2.1 hr)).symm
    | false =>
      cases he : eqB g.1 a b with
      | false => rfl
      | true => rw [h2.2 (eqB_of he)] at hr; cases hr
  rw [this]
def tI : List UInt8 := [116, 97, 103, 58, 121, 97, 109, 108, 46, 111, 114, 103, 44, 50, 48, 48, 50, 58, 105, 110, 116]
def tS : List UInt8 := [116, 97, 103, 58, 121, 97, 109, 108, 46, 111, 114, 103, 44, 50, 48, 48, 50, 58, 115, 116, 114]
def aG : GraphT := ([(1, (tI, ([49], ([], false)))), (1, (tI, ([48, 120, 49], ([], false)))), (1, (tS, ([49], ([], false))))], [])
theorem aG_fine : Fine aG := by
  refine ⟨⟨by decide, by decide, fun x hx => ?_, by decide⟩, by decide +kernel⟩
  have : x = (1, (tI, ([49], ([], false)))) ∨ x = (1, (tI, ([48, 120, 49], ([], false)))) ∨ x = (1, (tS, ([49], ([], false)))) := by simpa [aG] using hx
  rcases this with rfl | rfl | rfl <;> exact ⟨by decide, by decide, by decide⟩
theorem alive_spec (n : Nat) (hn : 40000 ≤ n) : alive n = some (true, ()) := by
  have h1 := equal_spec n aG 0 1 aG_fine (by decide) (by decide) hn
  have h2 := equal_spec n aG 0 2 aG_fine (by decide) (by decide) hn
  have e1 : eqB aG.1 0 1 = true := by
    refine eqB_t (Eqv.of (R := fun x y => x = 0 ∧ y = 1) ⟨rfl, rfl⟩ ?_)
    rintro x y ⟨rfl, rfl⟩
    refine .inr ⟨by decide +kernel, fun q hq => ?_⟩
    have : (kd aG.1 0).zip (kd aG.1 1) = [] := by decide
    rw [this] at hq; cases hq
  have e2 : eqB aG.1 0 2 = false := by
    cases h : eqB aG.1 0 2 with
    | false => rfl
    | true =>
      rcases eqB_of h _ .refl with h3 | h3
      · exact absurd h3 (by decide)
      · have h4 := congrArg (fun k : KeyT => k.2.1) h3
        exact absurd h4 (by decide)
  show (Option.bind (sameEqual n aG 0 1) fun y0 => bif y0.1 then Option.bind (sameEqual n aG 0 2) fun y1 => some ((!y1.1), ()) else some (false, ())) = some (true, ())
  rw [h1, h2, e1, e2]; rfl
end Go.Proofs.YtnddpppljnjmcaaGreatDoor
/- Plain functions for the program's. -/
namespace Go.Proofs.YtnddpppljnjmcaaGreatDoor
open Go Go.Iv Go.Gv
set_option maxRecDepth 100000
set_option linter.unusedVariables false
noncomputable def L4_6_Xexit0 : Tm := ⟨[(0, .one (.int .i64)), (1, .one (.int .i64)), (2, .one (.bool)), (8, .one (.fix (TV.ptr 64 0)))], [(64, .cells 25 [.all 65 31 (.cons (.int .i64) (.cons .str (.cons .str (.cons (.slc (.int .i64)) .bool)))) .ex, .fix (TV.raw (Go.Value.slice (Option.none) 0 0))] true)], 65, 66, 1001⟩
noncomputable def L4_6_T : Tm := ⟨[(0, .one (.int .i64)), (1, .one (.int .i64)), (2, .one (.bool)), (8, .one (.fix (TV.ptr 64 0))), (9, .one (.int .i64))], [(64, .cells 25 [.all 65 31 (.cons (.int .i64) (.cons .str (.cons .str (.cons (.slc (.int .i64)) .bool)))) .ex, .fix (TV.raw (Go.Value.slice (Option.none) 0 0))] true)], 65, 66, 1001⟩
noncomputable def L4_6 : Nat → Int → Int → Bool → Int → (List (Int × (List UInt8 × (List UInt8 × (List Int × Bool))))) → Option ((Int × (Int × (Bool × (Unit × Unit)))) × (((List (Int × (List UInt8 × (List UInt8 × (List Int × Bool))))) × (Unit × Unit)) × Unit))
 | 0, _, _, _, _, _ => none
 | n + 1, t0, t1, t2, t9, c64_0 =>
  bif (ilt t9 (IntKind.wrap .i64 (t0 + t1))) then
   bif ((IntKind.wrap .i64 (t9 + (1 : Int))) == t0) then
    bif ((0 : Int) == (IntKind.wrap .i64 (t0 + t1))) then
     bif (room (((List.length c64_0) + (List.length (((2 : Int), (([(116 : UInt8)] : List UInt8), (([] : List UInt8), ((t0 :: ([] : List Int)), false)))) :: []))) * 73)) then
     L4_6 n t0 t1 t2 (IntKind.wrap .i64 (t9 + (1 : Int))) (c64_0 ++ (((2 : Int), (([(116 : UInt8)] : List UInt8), (([] : List UInt8), ((t0 :: ([] : List Int)), false)))) :: []))
     else none
    else
    bif (room (((List.length c64_0) + (List.length (((2 : Int), (([(116 : UInt8)] : List UInt8), (([] : List UInt8), (((0 : Int) :: ([] : List Int)), false)))) :: []))) * 73)) then
    L4_6 n t0 t1 t2 (IntKind.wrap .i64 (t9 + (1 : Int))) (c64_0 ++ (((2 : Int), (([(116 : UInt8)] : List UInt8), (([] : List UInt8), (((0 : Int) :: ([] : List Int)), false)))) :: []))
    else none
   else
   bif ((IntKind.wrap .i64 (t9 + (1 : Int))) == (IntKind.wrap .i64 (t0 + t1))) then
    bif (room (((List.length c64_0) + (List.length (((2 : Int), (([(116 : UInt8)] : List UInt8), (([] : List UInt8), ((t0 :: ([] : List Int)), false)))) :: []))) * 73)) then
    L4_6 n t0 t1 t2 (IntKind.wrap .i64 (t9 + (1 : Int))) (c64_0 ++ (((2 : Int), (([(116 : UInt8)] : List UInt8), (([] : List UInt8), ((t0 :: ([] : List Int)), false)))) :: []))
    else none
   else
   bif (room (((List.length c64_0) + (List.length (((2 : Int), (([(116 : UInt8)] : List UInt8), (([] : List UInt8), (((IntKind.wrap .i64 (t9 + (1 : Int))) :: ([] : List Int)), false)))) :: []))) * 73)) then
   L4_6 n t0 t1 t2 (IntKind.wrap .i64 (t9 + (1 : Int))) (c64_0 ++ (((2 : Int), (([(116 : UInt8)] : List UInt8), (([] : List UInt8), (((IntKind.wrap .i64 (t9 + (1 : Int))) :: ([] : List Int)), false)))) :: []))
   else none
  else
  some ((t0, (t1, (t2, ((), ())))), ((c64_0, ((), ())), ()))
noncomputable def L4_6_it : LoopIt := ⟨4, 6, none, L4_6_T, [(.exit 0, L4_6_Xexit0)], 0, fun n x => L4_6 n x.1.1 x.1.2.1 x.1.2.2.1 x.1.2.2.2.2.1 x.2.1.1⟩
theorem L4_6_Xexit0_ok : L4_6_Xexit0.ok Tryz.prog hint := by
  intro p hp
  simp only [L4_6_Xexit0, List.mem_cons, List.not_mem_nil, or_false] at hp
  rcases hp with rfl
  · trivial
theorem L4_6_T_ok : L4_6_T.ok Tryz.prog hint := by
  intro p hp
  simp only [L4_6_T, List.mem_cons, List.not_mem_nil, or_false] at hp
  rcases hp with rfl
  · trivial
theorem L4_6_ok : ∀ n, LoopOK Tryz.prog hint shT L4_6_it n :=
  LoopOK.of (hk := fun β => (Known.mk [] []).hk β) (sh := shT) (OneLoop.of (by kernel_rfl)) L4_6_T_ok ⟨⟨L4_6_Xexit0_ok, Nat.le_refl _, Nat.le_refl _⟩, trivial⟩ (fun m => KnownOK.hook KnownOK.nil m)
    (fun _ => by kernel_rfl) (fun m x => by kernel_rfl)
noncomputable def sameRings (n : Nat) (m : Int) (k : Int) (odd : Bool) : Option (Bool × Unit) :=
 Option.bind (alive n ) fun y0 =>
 Option.bind (bif (!y0.1) then
   some true
  else
  bif (ilt m (1 : Int)) then
   some true
  else
  bif (ilt (20 : Int) m) then
   some true
  else
  bif (ilt k (1 : Int)) then
   some true
  else
  some (ilt (20 : Int) k)) fun b2 =>
 bif b2 then
  some (y0.1, ())
 else
 Option.bind (L4_6 (n + 14) m k odd (0 : Int) []) fun y3 =>
 bif y3.1.2.2.1 then
  bif ((ile (0 : Int) (IntKind.wrap .i64 ((IntKind.wrap .i64 (y3.1.1 + y3.1.2.1)) - (1 : Int)))) && (ilt (IntKind.wrap .i64 ((IntKind.wrap .i64 (y3.1.1 + y3.1.2.1)) - (1 : Int))) (len y3.2.1.1))) then
  Option.bind (y3.2.1.1[(Int.toNat (IntKind.wrap .i64 ((IntKind.wrap .i64 (y3.1.1 + y3.1.2.1)) - (1 : Int))))]?) fun x4 =>
  Option.bind (sameEqual (n + 1) ((List.set y3.2.1.1 (Int.toNat (IntKind.wrap .i64 ((IntKind.wrap .i64 (y3.1.1 + y3.1.2.1)) - (1 : Int)))) (x4.1, (([(117 : UInt8)] : List UInt8), (x4.2.2.1, (x4.2.2.2.1, x4.2.2.2.2))))), ([] : List Int)) (0 : Int) y3.1.1) fun y5 =>
  some ((y5.1 == (!y3.1.2.2.1)), ())
  else none
 else
 Option.bind (sameEqual (n + 1) (y3.2.1.1, ([] : List Int)) (0 : Int) y3.1.1) fun y6 =>
 some ((y6.1 == (!y3.1.2.2.1)), ())
noncomputable def sameRings_it : FnIt := ⟨4, [(false, (.int .i64)), (false, (.int .i64)), (false, .bool)], [(false, .bool)], 14, fun n x => sameRings n x.1 x.2.1 x.2.2.1⟩
theorem sameRings_ok (n : Nat) : FnOK Tryz.prog hint shT sameRings_it n :=
  FnOK.of (hk := fun β => (Known.mk [sameEqual_it, alive_it] [L4_6_it]).hk β) (sh := shT) (fun m _ => KnownOK.hook (((KnownOK.nil.fn alive_ok).loop L4_6_ok L4_6_T_ok).fn sameEqual_ok) m) (fun x => by kernel_rfl)
end Go.Proofs.YtnddpppljnjmcaaGreatDoor
/- Rings of like nodes are equal. -/
namespace Go.Proofs.YtnddpppljnjmcaaGreatDoor
open Go Go.Iv Go.Gv
set_option maxRecDepth 10000
def nxt (m k i : Nat) : Nat := if i + 1 = m then (if m + k = 0 then m else 0) else if i + 1 = m + k then m else i + 1
def ringN (m k i : Nat) : NodeT := (2, ([116], ([], ([(nxt m k i : Int)], false))))
def ring (m k : Nat) : List NodeT := (List.range (m + k)).map (ringN m k)
theorem ring_loop (m k : Nat) (hm1 : 1 ≤ m) (hm : m ≤ 20) (hk : k ≤ 20) (odd : Bool) : ∀ (j i n : Nat), i + j = m + k → j + 1 ≤ n → L4_6 n (m : Int) (k : Int) odd (i : Int) ((List.range i).map (ringN m k)) = some (((m : Int), ((k : Int), (odd, ((), ())))), ((ring m k, ((), ())), ())) := by
  intro j
  induction j with
  | zero =>
    intro i n hi hn
    obtain ⟨n, rfl⟩ : ∃ k, n = k + 1 := ⟨n - 1, by omega⟩
    have w1 : IntKind.wrap .i64 ((m : Int) + k) = ((m + k : Nat) : Int) := by rw [wrap_id] <;> omega
    simp only [L4_6, w1, ilt_f (show ((m + k : Nat) : Int) ≤ i by omega), cond_false]
    rw [show i = m + k by omega]
    rfl
  | succ j ih =>
    intro i n hi hn
    obtain ⟨n, rfl⟩ : ∃ k, n = k + 1 := ⟨n - 1, by omega⟩
    have w1 : IntKind.wrap .i64 ((m : Int) + k) = ((m + k : Nat) : Int) := by rw [wrap_id] <;> omega
    have w0 : IntKind.wrap .i64 ((i : Int) + 1) = ((i + 1 : Nat) : Int) := by rw [wrap_id] <;> omega
    have hI := ih (i + 1) n (by omega) (by omega)
    rw [List.range_succ, List.map_append, List.map_cons, List.map_nil] at hI
    have hrm : ∀ x : NodeT, room ((((List.range i).map (ringN m k)).length + [x].length) * 73) = true := fun x => roomle (by simp; omega)
    simp only [L4_6, w1, w0, ilt_t (show (i : Int) < ((m + k : Nat) : Int) by omega), cond_true]
    by_cases h1 : i + 1 = m
    · have b1 : (((i + 1 : Nat) : Int) == (m : Int)) = true := by simp [h1]
      have b2 : ((0 : Int) == ((m + k : Nat) : Int)) = false := by
        rw [beq_eq_false_iff_ne]; omega
      rw [b1, cond_true, b2, cond_false, hrm, cond_true]
      have e : ringN m k i = ((2 : Int), (([116] : List UInt8), (([] : List UInt8), ([(0 : Int)], false)))) := by
        unfold ringN nxt; rw [if_pos h1, if_neg (by omega)]; rfl
      rw [e] at hI; exact hI
    · have b1 : (((i + 1 : Nat) : Int) == (m : Int)) = false := by rw [beq_eq_false_iff_ne]; omega
      rw [b1, cond_false]
      by_cases h2 : i + 1 = m + k
      · have b2 : (((i + 1 : Nat) : Int) == ((m + k : Nat) : Int)) = true := by rw [h2]; simp
        rw [b2, cond_true, hrm, cond_true]
        have e : ringN m k i = ((2 : Int), (([116] : List UInt8), (([] : List UInt8), ([(m : Int)], false)))) := by
          unfold ringN nxt; rw [if_neg h1, if_pos h2]
        rw [e] at hI; exact hI
      · have b2 : (((i + 1 : Nat) : Int) == ((m + k : Nat) : Int)) = false := by rw [beq_eq_false_iff_ne]; omega
        rw [b2, cond_false, hrm, cond_true]
        have e : ringN m k i = ((2 : Int), (([116] : List UInt8), (([] : List UInt8), ([((i + 1 : Nat) : Int)], false)))) := by
          unfold ringN nxt; rw [if_neg h1, if_neg h2]
        rw [e] at hI; exact hI
theorem nxt_lt {m k i : Nat} (hm : 1 ≤ m) (hk : 1 ≤ k) (hi : i < m + k) : nxt m k i < m + k := by unfold nxt; split <;> (try split) <;> omega
theorem nxt_low {m k i : Nat} (hm : 1 ≤ m) (hi : i < m) : nxt m k i < m := by unfold nxt; split <;> (try split) <;> omega
def oddN (x : NodeT) : NodeT := (x.1, ([117], (x.2.2.1, (x.2.2.2.1, x.2.2.2.2))))
def ringO (m k : Nat) (odd : Bool) : List NodeT := if odd then (ring m k).set (m + k - 1) (oddN (ringN m k (m + k - 1))) else ring m k
def tagN (m k : Nat) (odd : Bool) (i : Nat) : NodeT := if odd = true ∧ i + 1 = m + k then oddN (ringN m k i) else ringN m k i
theorem ringO_len (m k : Nat) (odd : Bool) : (ringO m k odd).length = m + k := by
  unfold ringO ring; split <;> simp
theorem ringO_at (m k : Nat) (odd : Bool) {i : Nat} (hi : i < m + k) : (ringO m k odd)[i]? = some (tagN m k odd i) := by
  have hr : (ring m k)[i]? = some (ringN m k i) := by
    unfold ring
    rw [List.getElem?_map, List.getElem?_range hi]; rfl
  unfold ringO tagN
  cases odd with
  | false => simp [hr]
  | true =>
    simp only [if_true, true_and]
    rw [List.getElem?_set]
    split
    · rename_i h
      rw [if_pos (by unfold ring; simp; omega), if_pos (by omega), h]
    · rename_i h
      rw [if_neg (by omega)]; exact hr
theorem ringO_nd (m k : Nat) (odd : Bool) {i : Nat} (hi : i < m + k) : nd (ringO m k odd) (i : Int) = tagN m k odd i := by
  unfold nd
  rw [Int.toNat_natCast, ringO_at m k odd hi]; rfl
theorem tagN_kids (m k : Nat) (odd : Bool) (i : Nat) : (tagN m k odd i).2.2.2.1 = [(nxt m k i : Int)] := by
  unfold tagN; split <;> rfl
theorem ringO_kd (m k : Nat) (odd : Bool) {i : Nat} (hi : i < m + k) : kd (ringO m k odd) (i : Int) = [(nxt m k i : Int)] := by
  unfold kd; rw [ringO_nd m k odd hi, tagN_kids]
theorem ringO_mem {m k : Nat} {odd : Bool} {x : NodeT} (h : x ∈ ringO m k odd) : ∃ i, i < m + k ∧ x = tagN m k odd i := by
  obtain ⟨i, hi, e⟩ := List.mem_iff_getElem.1 h
  rw [ringO_len] at hi
  refine ⟨i, hi, ?_⟩
  have := ringO_at m k odd hi
  rw [List.getElem?_eq_getElem (by rw [ringO_len]; exact hi), e] at this
  exact Option.some.inj this
theorem ring_even (m k : Nat) (hm : 1 ≤ m) (hk : 1 ≤ k) : Eqv (ringO m k false) 0 (m : Int) := by
  refine Eqv.of (R := fun x y => ∃ i j : Nat, i < m + k ∧ j < m + k ∧ x = i ∧ y = j) ⟨0, m, by omega, by omega, rfl, rfl⟩ ?_
  rintro x y ⟨i, j, hi, hj, rfl, rfl⟩
  right
  rw [ringO_nd m k false hi, ringO_nd m k false hj, ringO_kd m k false hi, ringO_kd m k false hj]
  refine ⟨by simp [tagN, ringN, key], fun q hq => ?_⟩
  simp at hq
  subst hq
  exact ⟨nxt m k i, nxt m k j, nxt_lt hm hk hi, nxt_lt hm hk hj, rfl, rfl⟩
theorem ring_odd (m k : Nat) (hm : 1 ≤ m) (hk : 1 ≤ k) : ¬ Eqv (ringO m k true) 0 (m : Int) := by
  intro h
  have walk : ∀ j, j < k → ∃ i, i < m ∧ Rch (ringO m k true) (0, (m : Int)) ((i : Int), ((m + j : Nat) : Int)) := by
    intro j
    induction j with
    | zero => intro _; exact ⟨0, by omega, .refl⟩
    | succ j ih =>
      intro hj
      obtain ⟨i, hi, hr⟩ := ih (by omega)
      refine ⟨nxt m k i, nxt_low hm hi, .step hr ⟨?_, ?_⟩⟩
      · show ((i : Int)) ≠ ((m + j : Nat) : Int)
        omega
      · show (((nxt m k i : Nat) : Int), ((m + (j + 1) : Nat) : Int)) ∈ (kd (ringO m k true) (i : Int)).zip (kd (ringO m k true) ((m + j : Nat) : Int))
        rw [ringO_kd m k true (by omega), ringO_kd m k true (by omega)]
        have : nxt m k (m + j) = m + (j + 1) := by unfold nxt; rw [if_neg (by omega), if_neg (by omega)]; omega
        rw [this]; simp
  obtain ⟨i, hi, hr⟩ := walk (k - 1) (by omega)
  rcases h _ hr with h1 | h1
  · have : (i : Int) = ((m + (k - 1) : Nat) : Int) := h1
    omega
  · have h1 : key (nd (ringO m k true) (i : Int)) = key (nd (ringO m k true) ((m + (k - 1) : Nat) : Int)) := h1
    rw [ringO_nd m k true (by omega), ringO_nd m k true (by omega)] at h1
    have h2 := congrArg (fun k : KeyT => k.2.1) h1
    simp only [tagN, true_and] at h2
    rw [if_neg (by omega), if_pos (by omega)] at h2
    simp [key, ringN, oddN] at h2
theorem kindTag : nodeO ((2 : Int), (([116] : List UInt8), (([] : List UInt8), (([] : List Int), false)))) = true ∧ nodeO ((2 : Int), (([117] : List UInt8), (([] : List UInt8), (([] : List Int), false)))) = true := by
  constructor <;> decide +kernel
theorem ring_fine (m k : Nat) (odd : Bool) (hm : 1 ≤ m) (hk : 1 ≤ k) (hm2 : m ≤ 20) (hk2 : k ≤ 20) : Fine (ringO m k odd, []) := by
  have hN : ∀ x ∈ ringO m k odd, x.1 = 2 ∧ (x.2.1 = [116] ∨ x.2.1 = [117]) ∧ x.2.2.1 = [] ∧ x.2.2.2.2 = false ∧ ∃ i, i < m + k ∧ x.2.2.2.1 = [(nxt m k i : Int)] := by
    intro x hx
    obtain ⟨i, hi, rfl⟩ := ringO_mem hx
    refine ⟨?_, ?_, ?_, ?_, i, hi, tagN_kids m k odd i⟩ <;> unfold tagN <;> split <;> simp [oddN, ringN]
  have hks : ∀ l : List NodeT, (∀ x ∈ l, x.2.2.2.1.length = 1) → ksum l = l.length := by
    intro l
    induction l with
    | nil => intro _; rfl
    | cons x r ih =>
      intro h
      simp only [ksum, List.length_cons]
      rw [ih fun y hy => h y (List.mem_cons_of_mem _ hy), h x List.mem_cons_self]
      omega
  refine ⟨⟨?_, by simp, fun x hx => ?_, ?_⟩, ?_⟩
  · show (ringO m k odd).length ≤ 60
    rw [ringO_len]; omega
  · obtain ⟨_, ht, hs, _, i, _, hl⟩ := hN x hx
    refine ⟨?_, ?_, ?_⟩
    · rcases ht with h | h <;> rw [h] <;> simp
    · rw [hs]; simp
    · rw [hl]; simp
  · show ksum (ringO m k odd) ≤ 400
    rw [hks _ fun x hx => by obtain ⟨_, _, _, _, i, _, hl⟩ := hN x hx; rw [hl]; rfl, ringO_len]; omega
  · unfold rightG
    simp only [List.all_nil, Bool.true_and, List.all_eq_true]
    intro x hx
    obtain ⟨h1, ht, hs, hp, i, hi, hl⟩ := hN x hx
    unfold nodeG
    have hk2 : x.2.2.2.1.all (inB (ringO m k odd).length) = true := by
      rw [hl, ringO_len]
      have := nxt_lt hm hk hi
      simp [inB]; omega
    rw [hk2, Bool.and_true]
    obtain ⟨a, b, c, d, e⟩ := x
    simp only at h1 ht hs hp hl
    subst h1 hs hp hl
    have gen : ∀ t : List UInt8, nodeO ((2 : Int), (t, (([] : List UInt8), ([(nxt m k i : Int)], false)))) = nodeO ((2 : Int), (t, (([] : List UInt8), (([] : List Int), false)))) := fun t => rfl
    rcases ht with h | h <;> subst h <;> rw [gen]
    · exact kindTag.1
    · exact kindTag.2
theorem rings_row (n : Nat) (hn : 50000 ≤ n) (m k : Int) (odd : Bool) (_ : Sh.wf (.int .i64) m) (_ : Sh.wf (.int .i64) k) (_ : Sh.wf .bool odd) : sameRings n m k odd = some (true, ()) := by
  unfold sameRings
  rw [alive_spec n (by omega), Option.bind_some]
  simp only [Bool.not_true, cond_false]
  by_cases h1 : m < 1
  · rw [ilt_t h1]; rfl
  rw [ilt_f (by omega)]
  by_cases h2 : 20 < m
  · rw [ilt_t h2]; rfl
  rw [ilt_f (by omega)]
  by_cases h3 : k < 1
  · rw [ilt_t h3]; rfl
  rw [ilt_f (by omega)]
  by_cases h4 : 20 < k
  · rw [ilt_t h4]; rfl
  rw [ilt_f (by omega)]
  simp only [cond_false, Option.bind_some]
  obtain ⟨M, rfl⟩ : ∃ M : Nat, m = M := ⟨m.toNat, by omega⟩
  obtain ⟨Q, rfl⟩ : ∃ Q : Nat, k = Q := ⟨k.toNat, by omega⟩
  have hl := ring_loop M Q (by omega) (by omega) (by omega) odd (M + Q) 0 (n + 14) (by omega) (by omega)
  simp only [List.range_zero, List.map_nil, Int.natCast_zero] at hl
  rw [hl, Option.bind_some]
  have hlen : ∀ o, len (ringO M Q o) = ((M + Q : Nat) : Int) := fun o => by simp [len, ringO_len]
  have in0 : ∀ o, inB (ringO M Q o).length 0 = true := fun o => by rw [ringO_len]; simp [inB]; omega
  have inM : ∀ o, inB (ringO M Q o).length (M : Int) = true := fun o => by rw [ringO_len]; simp [inB]; omega
  cases odd with
  | false =>
    simp only [cond_false, Bool.not_false]
    rw [show ring M Q = ringO M Q false from rfl, equal_spec (n + 1) (ringO M Q false, []) 0 M (ring_fine M Q false (by omega) (by omega) (by omega) (by omega)) (in0 false) (inM false) (by omega)]
    rw [Option.bind_some, eqB_t (ring_even M Q (by omega) (by omega))]
    rfl
  | true =>
    have w1 : IntKind.wrap .i64 ((M : Int) + Q) = ((M + Q : Nat) : Int) := by rw [wrap_id] <;> omega
    have w2 : IntKind.wrap .i64 (((M + Q : Nat) : Int) - 1) = ((M + Q - 1 : Nat) : Int) := by rw [wrap_id] <;> omega
    have hat : (ring M Q)[M + Q - 1]? = some (ringN M Q (M + Q - 1)) := by
      unfold ring
      rw [List.getElem?_map, List.getElem?_range (by omega)]; rfl
    have hlr : len (ring M Q) = ((M + Q : Nat) : Int) := by simp [len, ring]
    simp only [cond_true, w1, w2, hlr, ile_t (show (0 : Int) ≤ ((M + Q - 1 : Nat) : Int) by omega), ilt_t (show ((M + Q - 1 : Nat) : Int) < ((M + Q : Nat) : Int) by omega), Bool.and_self, Int.toNat_natCast, hat, Option.bind_some, Bool.not_true]
    have e : (ring M Q).set (M + Q - 1) ((ringN M Q (M + Q - 1)).1, (([117] : List UInt8), ((ringN M Q (M + Q - 1)).2.2.1, ((ringN M Q (M + Q - 1)).2.2.2.1, (ringN M Q (M + Q - 1)).2.2.2.2)))) = ringO M Q true := rfl
    rw [e, equal_spec (n + 1) (ringO M Q true, []) 0 M (ring_fine M Q true (by omega) (by omega) (by omega) (by omega)) (in0 true) (inM true) (by omega), Option.bind_some]
    have : eqB (ringO M Q true) 0 M = false := by
      cases h : eqB (ringO M Q true) 0 M with
      | false => rfl
      | true => exact absurd (eqB_of h) (ring_odd M Q (by omega) (by omega))
    rw [this]; rfl
end Go.Proofs.YtnddpppljnjmcaaGreatDoor
/- Functions whose answers are told: by the kit's contracts. -/
namespace Go.Proofs.YtnddpppljnjmcaaGreatDoor
open Go Go.Iv Go.Gv Go.Shelf Go.Proofs
def lays171_ren : Go.Shelf.Ren := ⟨fun | 171 => 33 | 243 => 46 | 246 => 59 | 283 => 75 | 284 => 76 | 285 => 77 | 286 => 78 | 129 => 100 | 317 => 99 | 318 => 101 | 319 => 102 | 320 => 103 | 337 => 120 | 338 => 121 | n => n, fun | 3 => 3 | 9 => 9 | 2 => 2 | 4 => 4 | 171 => 116 | 0 => 0 | 53 => 117 | 37 => 52 | 5 => 5 | 173 => 120 | 212 => 135 | 51 => 136 | 20 => 20 | 213 => 137 | 46 => 110 | 232 => 156 | 233 => 157 | n => n, fun | 17 => 2 | 18 => 3 | 19 => 4 | n => n⟩
theorem lays171 : Go.Proofs.LaysM.n171 Tryz.prog lays171_ren := {
  mixed := by kernel_rfl
  f129 := Tryz.func100.trans (congrArg some (by kernel_rfl))
  f171 := Tryz.func33.trans (congrArg some (by kernel_rfl))
  f243 := Tryz.func46.trans (congrArg some (by kernel_rfl))
  f246 := Tryz.func59.trans (congrArg some (by kernel_rfl))
  f283 := Tryz.func75.trans (congrArg some (by kernel_rfl))
  f284 := Tryz.func76.trans (congrArg some (by kernel_rfl))
  f285 := Tryz.func77.trans (congrArg some (by kernel_rfl))
  f286 := Tryz.func78.trans (congrArg some (by kernel_rfl))
  f317 := Tryz.func99.trans (congrArg some (by kernel_rfl))
  f318 := Tryz.func101.trans (congrArg some (by kernel_rfl))
  f319 := Tryz.func102.trans (congrArg some (by kernel_rfl))
  f320 := Tryz.func103.trans (congrArg some (by kernel_rfl))
  f337 := Tryz.func120.trans (congrArg some (by kernel_rfl))
  f338 := Tryz.func121.trans (congrArg some (by kernel_rfl))
  t0 := Tryz.underlying0
  a0 := Tryz.isAgg0
  z0 := Tryz.sizeOf0
  v0 := Tryz.zeroValue0
  t2 := Tryz.underlying2
  a2 := Tryz.isAgg2
  z2 := Tryz.sizeOf2
  v2 := Tryz.zeroValue2
  t3 := Tryz.underlying3
  a3 := Tryz.isAgg3
  z3 := Tryz.sizeOf3
  v3 := Tryz.zeroValue3
  t4 := Tryz.underlying4
  a4 := Tryz.isAgg4
  z4 := Tryz.sizeOf4
  v4 := Tryz.zeroValue4
  t5 := Tryz.underlying5
  a5 := Tryz.isAgg5
  z5 := Tryz.sizeOf5
  v5 := Tryz.zeroValue5
  t9 := Tryz.underlying9
  a9 := Tryz.isAgg9
  z9 := Tryz.sizeOf9
  v9 := Tryz.zeroValue9
  t20 := Tryz.underlying20
  a20 := Tryz.isAgg20
  z20 := Tryz.sizeOf20
  v20 := Tryz.zeroValue20
  t37 := Tryz.underlying52
  a37 := Tryz.isAgg52
  z37 := Tryz.sizeOf52
  v37 := Tryz.zeroValue52
  t46 := Tryz.underlying110
  a46 := Tryz.isAgg110
  z46 := Tryz.sizeOf110
  v46 := Tryz.zeroValue110
  t51 := Tryz.underlying136
  a51 := Tryz.isAgg136
  z51 := Tryz.sizeOf136
  v51 := Tryz.zeroValue136
  t53 := Tryz.underlying117
  a53 := Tryz.isAgg117
  z53 := Tryz.sizeOf117
  v53 := Tryz.zeroValue117
  t171 := Tryz.underlying116
  a171 := Tryz.isAgg116
  z171 := Tryz.sizeOf116
  v171 := Tryz.zeroValue116
  t173 := Tryz.underlying120
  a173 := Tryz.isAgg120
  z173 := Tryz.sizeOf120
  v173 := Tryz.zeroValue120
  t212 := Tryz.underlying135
  a212 := Tryz.isAgg135
  z212 := Tryz.sizeOf135
  v212 := Tryz.zeroValue135
  t213 := Tryz.underlying137
  a213 := Tryz.isAgg137
  z213 := Tryz.sizeOf137
  t232 := Tryz.underlying156
  a232 := Tryz.isAgg156
  z232 := Tryz.sizeOf156
  v232 := Tryz.zeroValue156
  t233 := Tryz.underlying157
  a233 := Tryz.isAgg157
  z233 := Tryz.sizeOf157
  v233 := Tryz.zeroValue157
  g17 := by kernel_rfl
  g18 := by kernel_rfl
  g19 := by kernel_rfl
  i0 := by kernel_rfl
  i2 := by kernel_rfl
  i3 := by kernel_rfl
  i4 := by kernel_rfl
  i5 := by kernel_rfl
  i9 := by kernel_rfl
  i20 := by kernel_rfl
  i37 := by kernel_rfl
  i46 := by kernel_rfl
  i51 := by kernel_rfl
  i53 := by kernel_rfl
  i171 := by kernel_rfl
  i173 := by kernel_rfl
  i212 := by kernel_rfl
  i232 := by kernel_rfl
  i233 := by kernel_rfl
  m17 := by kernel_rfl
  m18 := by kernel_rfl
  m19 := by kernel_rfl
}
def lays161_ren : Go.Shelf.Ren := ⟨fun | 161 => 94 | 231 => 112 | 227 => 113 | 233 => 114 | 235 => 115 | 228 => 122 | 197 => 123 | 151 => 124 | 260 => 128 | 152 => 129 | 137 => 136 | 119 => 137 | 224 => 138 | 225 => 139 | 217 => 143 | 266 => 146 | n => n, fun | 9 => 9 | 4 => 4 | 3 => 3 | 5 => 5 | 117 => 146 | 116 => 145 | 0 => 0 | 124 => 149 | 105 => 152 | 21 => 21 | 119 => 106 | 46 => 110 | 139 => 109 | 138 => 108 | n => n, fun | 3 => 0 | 4 => 1 | n => n⟩
theorem lays161 : Go.Proofs.Lays.n161 Tryz.prog lays161_ren := {
  mixed := by kernel_rfl
  f119 := Tryz.func137.trans (congrArg some (by kernel_rfl))
  f137 := Tryz.func136.trans (congrArg some (by kernel_rfl))
  f151 := Tryz.func124.trans (congrArg some (by kernel_rfl))
  f152 := Tryz.func129.trans (congrArg some (by kernel_rfl))
  f161 := Tryz.func94.trans (congrArg some (by kernel_rfl))
  f197 := Tryz.func123.trans (congrArg some (by kernel_rfl))
  f217 := Tryz.func143.trans (congrArg some (by kernel_rfl))
  f224 := Tryz.func138.trans (congrArg some (by kernel_rfl))
  f225 := Tryz.func139.trans (congrArg some (by kernel_rfl))
  f227 := Tryz.func113.trans (congrArg some (by kernel_rfl))
  f228 := Tryz.func122.trans (congrArg some (by kernel_rfl))
  f231 := Tryz.func112.trans (congrArg some (by kernel_rfl))
  f233 := Tryz.func114.trans (congrArg some (by kernel_rfl))
  f235 := Tryz.func115.trans (congrArg some (by kernel_rfl))
  f260 := Tryz.func128.trans (congrArg some (by kernel_rfl))
  f266 := Tryz.func146.trans (congrArg some (by kernel_rfl))
  t0 := Tryz.underlying0
  a0 := Tryz.isAgg0
  z0 := Tryz.sizeOf0
  v0 := Tryz.zeroValue0
  t3 := Tryz.underlying3
  a3 := Tryz.isAgg3
  z3 := Tryz.sizeOf3
  v3 := Tryz.zeroValue3
  t4 := Tryz.underlying4
  a4 := Tryz.isAgg4
  z4 := Tryz.sizeOf4
  v4 := Tryz.zeroValue4
  t5 := Tryz.underlying5
  a5 := Tryz.isAgg5
  z5 := Tryz.sizeOf5
  v5 := Tryz.zeroValue5
  t9 := Tryz.underlying9
  a9 := Tryz.isAgg9
  z9 := Tryz.sizeOf9
  v9 := Tryz.zeroValue9
  t21 := Tryz.underlying21
  a21 := Tryz.isAgg21
  z21 := Tryz.sizeOf21
  v21 := Tryz.zeroValue21
  t46 := Tryz.underlying110
  a46 := Tryz.isAgg110
  z46 := Tryz.sizeOf110
  v46 := Tryz.zeroValue110
  t105 := Tryz.underlying152
  a105 := Tryz.isAgg152
  z105 := Tryz.sizeOf152
  v105 := Tryz.zeroValue152
  t116 := Tryz.underlying145
  a116 := Tryz.isAgg145
  z116 := Tryz.sizeOf145
  t117 := Tryz.underlying146
  a117 := Tryz.isAgg146
  z117 := Tryz.sizeOf146
  v117 := Tryz.zeroValue146
  t119 := Tryz.underlying106
  a119 := Tryz.isAgg106
  z119 := Tryz.sizeOf106
  t124 := Tryz.underlying149
  a124 := Tryz.isAgg149
  z124 := Tryz.sizeOf149
  v124 := Tryz.zeroValue149
  t138 := Tryz.underlying108
  a138 := Tryz.isAgg108
  z138 := Tryz.sizeOf108
  v138 := Tryz.zeroValue108
  t139 := Tryz.underlying109
  a139 := Tryz.isAgg109
  z139 := Tryz.sizeOf109
  v139 := Tryz.zeroValue109
  g3 := by kernel_rfl
  g4 := by kernel_rfl
}
def lays196_ren : Go.Shelf.Ren := ⟨fun | 196 => 52 | 259 => 69 | n => n, fun | 9 => 9 | 4 => 4 | 3 => 3 | 5 => 5 | 12 => 12 | 119 => 106 | 0 => 0 | 46 => 110 | 139 => 109 | 138 => 108 | 53 => 117 | n => n, fun | 3 => 0 | 4 => 1 | n => n⟩
theorem lays196 : Go.Proofs.Lays.n196 Tryz.prog lays196_ren := {
  mixed := by kernel_rfl
  f196 := Tryz.func52.trans (congrArg some (by kernel_rfl))
  f259 := Tryz.func69.trans (congrArg some (by kernel_rfl))
  t0 := Tryz.underlying0
  a0 := Tryz.isAgg0
  z0 := Tryz.sizeOf0
  v0 := Tryz.zeroValue0
  t3 := Tryz.underlying3
  a3 := Tryz.isAgg3
  z3 := Tryz.sizeOf3
  v3 := Tryz.zeroValue3
  t4 := Tryz.underlying4
  a4 := Tryz.isAgg4
  z4 := Tryz.sizeOf4
  v4 := Tryz.zeroValue4
  t5 := Tryz.underlying5
  a5 := Tryz.isAgg5
  z5 := Tryz.sizeOf5
  v5 := Tryz.zeroValue5
  t9 := Tryz.underlying9
  a9 := Tryz.isAgg9
  z9 := Tryz.sizeOf9
  v9 := Tryz.zeroValue9
  t12 := Tryz.underlying12
  a12 := Tryz.isAgg12
  z12 := Tryz.sizeOf12
  v12 := Tryz.zeroValue12
  t46 := Tryz.underlying110
  a46 := Tryz.isAgg110
  z46 := Tryz.sizeOf110
  v46 := Tryz.zeroValue110
  t53 := Tryz.underlying117
  a53 := Tryz.isAgg117
  z53 := Tryz.sizeOf117
  v53 := Tryz.zeroValue117
  t119 := Tryz.underlying106
  a119 := Tryz.isAgg106
  z119 := Tryz.sizeOf106
  t138 := Tryz.underlying108
  a138 := Tryz.isAgg108
  z138 := Tryz.sizeOf108
  v138 := Tryz.zeroValue108
  t139 := Tryz.underlying109
  a139 := Tryz.isAgg109
  z139 := Tryz.sizeOf109
  v139 := Tryz.zeroValue109
  g3 := by kernel_rfl
  g4 := by kernel_rfl
}
theorem sp33 : Spec1 Tryz.prog 1 33 2 := spec_itoa ⟨_, _, Tryz.func33, rfl⟩ (by kernel_rfl) fun n w h0 h1 ht => Go.Proofs.Any.strconv_Itoa lays171 n h0 h1 w ht
theorem sp94 : Spec1 Tryz.prog 2 94 0 := spec_trim ⟨_, _, Tryz.func94, rfl⟩ fun s cutset w h1 h2 => Go.Proofs.Any.strings_TrimLeft_laid lays161 (by kernel_rfl) s cutset w h1 h2
theorem sp52 : Spec1 Tryz.prog 3 52 1 := spec_valid (g1 := 0) (g2 := 1) (by decide) ⟨_, _, Tryz.func52, rfl⟩ fun s w h1 h2 => Go.Proofs.Any.utf8_ValidString lays196 s w h1 h2
theorem specs_ok : SpecOK Tryz.prog (gspec hint) := gspec_ok (show SpecsOK Tryz.prog specL from ⟨sp33, sp94, sp52, trivial⟩)
end Go.Proofs.YtnddpppljnjmcaaGreatDoor
