/- Law 5: exponents. -/
import Derived.Test.YtbkdijjliabfdaaGreatDoorLaw
import Derived.Test.YtbkdijjliabfdaaGreatDoorProg
import Derived.Test.YtbkdijjliabfdaaGreatDoorGs
import Derived.Test.YtbkdijjliabfdaaGreatDoorGvSpec
set_option linter.unusedSimpArgs false
set_option linter.unusedVariables false
namespace Go.Proofs.YtbkdijjliabfdaaGreatDoor
open Go Go.Iv Go.Gv
set_option linter.unusedSimpArgs false
set_option linter.unusedVariables false
set_option maxRecDepth 20000

def vf : Int → List UInt8 → Int
  | a, [] => a
  | a, c :: r => vf (a * 10 + (ub c - 48)) r
def allg : List UInt8 → Bool
  | [] => true
  | c :: r => dig c && allg r
theorem run_all : ∀ (d : List UInt8), ((run d).length = d.length) ↔ allg d = true
  | [] => ⟨fun _ => rfl, fun _ => rfl⟩
  | c :: r => by
    have ih := run_all r
    unfold run at ih ⊢
    simp only [List.takeWhile, allg]
    cases dig c with
    | false => simp
    | true => simp only [List.length_cons, Bool.true_and, ← ih]; omega
theorem run_id (d : List UInt8) (h : allg d = true) : run d = d := by
  have := (run_all d).2 h
  have h2 := run_take d
  rw [this, List.take_length] at h2
  exact h2.symm
theorem dig_ub (c : UInt8) (h : dig c = true) : 48 ≤ ub c ∧ ub c ≤ 57 := by
  unfold dig at h; unfold ub
  rw [Bool.and_eq_true, Nat.ble_eq, Nat.ble_eq] at h; omega
theorem allg_get : ∀ (d : List UInt8), allg d = true → ∀ (i : Nat) (h : i < d.length), dig d[i] = true
  | [], _, i, h => by simp at h
  | c :: r, ha, i, h => by
    simp only [allg, Bool.and_eq_true] at ha
    cases i with
    | zero => exact ha.1
    | succ i => exact allg_get r ha.2 i (by simpa using h)
theorem sub48 (c : UInt8) (h : dig c = true) : ub (c - 48) = ub c - 48 := by
  have hb := dig_ub c h
  unfold ub at hb ⊢
  have e : (48 : UInt8) ≤ c := by rw [UInt8.le_iff_toNat_le]; show 48 ≤ c.toNat; omega
  rw [UInt8.toNat_sub_of_le _ _ e]
  show ((c.toNat - 48 : Nat) : Int) = (c.toNat : Int) - 48
  omega
theorem pow9 (i : Nat) (h : i ≤ 8) : (10 : Int) ^ i ≤ 100000000 ∧ (1 : Int) ≤ 10 ^ i ∧ (10 : Int) ^ (i + 1) = 10 ^ i * 10 := by
  refine ⟨?_, ?_, Int.pow_succ ..⟩
  · have := Nat.pow_le_pow_right (show 0 < 10 by decide) h
    have e : ((10 ^ i : Nat) : Int) = 10 ^ i := by norm_cast
    rw [← e]; omega
  · have : 0 < 10 ^ i := Nat.pow_pos (show 0 < 10 by decide)
    have e : ((10 ^ i : Nat) : Int) = 10 ^ i := by norm_cast
    rw [← e]; omega
theorem val_loop (t d : List UInt8) (ha : allg d = true) (hl : d.length ≤ 9) : ∀ (m i n : Nat) (a : Int), i + m = d.length → 0 ≤ a ∧ a < 10 ^ i → m + 1 ≤ n →
    L74_10 n t a d (len d) (i : Int) = some ((t, (vf a (d.drop i), ())), ()) := by
  intro m
  induction m with
  | zero =>
    intro i n a h hb hn
    obtain ⟨n, rfl⟩ : ∃ k, n = k + 1 := ⟨n - 1, by omega⟩
    simp only [L74_10, len, ilt_f (show ((d.length : Nat) : Int) ≤ (i : Int) by omega), cond_false, List.drop_eq_nil_of_le (show d.length ≤ i by omega), vf]
  | succ m ih =>
    intro i n a h hb hn
    obtain ⟨n, rfl⟩ : ∃ k, n = k + 1 := ⟨n - 1, by omega⟩
    have hi : i < d.length := by omega
    have hd := allg_get d ha i hi
    have hu := dig_ub _ hd
    obtain ⟨p1, p2, p3⟩ := pow9 i (by omega)
    have w : IntKind.wrap .i64 ((i : Int) + 1) = ((i + 1 : Nat) : Int) := by rw [wrap_id] <;> omega
    have w1 : IntKind.wrap .i64 (IntKind.wrap .i64 (a * 10) + IntKind.wrap .i64 (ub (d[i] - 48))) = a * 10 + (ub d[i] - 48) := by
      rw [ub_wrap, sub48 _ hd, wrap_id (x := a * 10), wrap_id] <;> omega
    have q : Nat.blt (UInt8.toNat 9) (UInt8.toNat (d[i] - 48)) = false := by
      have := sub48 _ hd
      unfold ub at this hu
      have e : UInt8.toNat 9 = 9 := rfl
      rw [e]
      cases hq : Nat.blt 9 (UInt8.toNat (d[i] - 48)) with
      | false => rfl
      | true =>
        have := Nat.le_of_ble_eq_true hq
        omega
    have ih := ih (i + 1) n (a * 10 + (ub d[i] - 48)) (by omega) (by rw [p3]; omega) (by omega)
    rw [List.drop_eq_getElem_cons hi]
    unfold len at ih ⊢
    simp only [L74_10, ilt_t (show (i : Int) < ((d.length : Nat) : Int) by omega), ile_t (show (0 : Int) ≤ (i : Int) by omega), cond_true, Int.toNat_natCast, List.getElem?_eq_getElem hi, Option.bind_some, w, w1, q, cond_false, vf, ih]
theorem vf_bound (d : List UInt8) : ∀ (a : Int) (i : Nat), allg d = true → i + d.length ≤ 9 → 0 ≤ a ∧ a < 10 ^ i → 0 ≤ vf a d ∧ vf a d < 1000000000 := by
  induction d with
  | nil =>
    intro a i _ h hb
    simp only [vf]
    rw [List.length_nil] at h
    have := Nat.pow_le_pow_right (show 0 < 10 by decide) h
    have e : ((10 ^ i : Nat) : Int) = 10 ^ i := by norm_cast
    rw [← e] at hb
    simp only [Nat.add_zero] at this
    omega
  | cons c r ih =>
    intro a i ha h hb
    simp only [allg, Bool.and_eq_true] at ha
    rw [List.length_cons] at h
    have hu := dig_ub _ ha.1
    obtain ⟨p1, p2, p3⟩ := pow9 i (by omega)
    exact ih _ (i + 1) ha.2 (by omega) (by rw [p3]; omega)

def okx (d : List UInt8) : Bool := !d.isEmpty && (Nat.ble d.length 9 && allg d)
def ex : List UInt8 → Int × Bool
  | [] => (0, true)
  | c :: r => bif c != 101 && c != 69 then (0, false) else bif okx (sgn r).1 then (bif (sgn r).2 then -(vf 0 (sgn r).1) else vf 0 (sgn r).1, true) else (0, false)
theorem ex_bound (s : List UInt8) : -1000000000 ≤ (ex s).1 ∧ (ex s).1 ≤ 1000000000 := by
  cases s with
  | nil => simp [ex]
  | cons c r =>
    simp only [ex]
    cases (c != 101 && c != 69) with
    | true => simp
    | false =>
      cases h : okx (sgn r).1 with
      | false => simp
      | true =>
        unfold okx at h
        rw [Bool.and_eq_true, Bool.and_eq_true, Nat.ble_eq] at h
        have := vf_bound (sgn r).1 0 0 h.2.2 (by omega) (by simp)
        cases (sgn r).2 <;> simp only [cond_true, cond_false] <;> omega
theorem exponent_spec (n : Nat) (s : List UInt8) (hs : s.length ≤ 100000) (hn : s.length + 20 ≤ n) : exponent n s = some ((ex s).1, (ex s).2, ()) := by
  cases s with
  | nil => rfl
  | cons c r =>
    unfold exponent
    have e0 : ((c :: r) == ([] : List UInt8)) = false := rfl
    have e1 : (Option.bind ((c :: r)[0]?) fun x1 => bif (x1 != (101 : UInt8)) then Option.bind ((c :: r)[0]?) fun x2 => some (x2 != (69 : UInt8)) else some Bool.false) = some (c != 101 && c != 69) := by
      show (bif c != 101 then some (c != 69) else some false) = _
      cases c != 101 <;> rfl
    have hsl := sgn_len r
    rw [e0, cond_false, e1, Option.bind_some]
    simp only [ex]
    cases (c != 101 && c != 69) with
    | true => rfl
    | false =>
      rw [cond_false, cond_false, ile_t (show (1 : Int) ≤ len (c :: r) by simp only [len, List.length_cons]; omega), cond_true, take_all]
      show Option.bind (signed (n + 2) r) _ = _
      rw [signed_spec, Option.bind_some]
      simp only [List.length_cons] at hs hn
      generalize hd : (sgn r).1 = d at *
      generalize (sgn r).2 = b at *
      rw [beq_nil]
      cases he : d.isEmpty with
      | true => rw [isEmpty_eq he]; rfl
      | false =>
        have hpos : 0 < d.length := by
          cases d with
          | nil => cases he
          | cons => simp
        rw [cond_false]
        by_cases h9 : 9 < d.length
        · have : okx d = false := by
            unfold okx
            have : Nat.ble d.length 9 = false := by
              cases hq : Nat.ble d.length 9 with
              | false => rfl
              | true => have := Nat.le_of_ble_eq_true hq; omega
            rw [this]; simp
          rw [ilt_t (show 9 < len d by unfold len; omega), cond_true, this]; rfl
        rw [ilt_f (show len d ≤ 9 by unfold len; omega), cond_false, count_spec (n + 4) d (by omega) (by omega), Option.bind_some]
        have h9' : Nat.ble d.length 9 = true := Nat.ble_eq_true_of_le (by omega)
        cases ha : allg d with
        | false =>
          have h1 : ¬ ((run d).length = d.length) := fun h => by
            have := (run_all d).1 h
            rw [ha] at this; cases this
          have h2 : (((run d).length : Int) != len d) = true := by
            rw [bne_iff_ne]; unfold len; omega
          have : okx d = false := by unfold okx; rw [ha]; simp
          rw [h2, cond_true, this]; rfl
        | true =>
          have h2 : (((run d).length : Int) != len d) = false := by
            rw [(run_all d).2 ha]; unfold len; simp
          have : okx d = true := by unfold okx; rw [ha, he, h9']; rfl
          rw [h2, cond_false, this, ilt_t (show 0 < len d by unfold len; omega), ilt_t (show len d < 19 by unfold len; omega), cond_true, Option.bind_some, cond_true]
          have hg : d[0]? = some d[0] := List.getElem?_eq_getElem hpos
          have hd0 := dig_ub _ (allg_get d ha 0 hpos)
          have n45 : (d[0] == 45) = false := by
            rw [beq_eq_false_iff_ne]; intro h; rw [h] at hd0; exact absurd hd0.1 (by decide)
          have n43 : (d[0] == 43) = false := by
            rw [beq_eq_false_iff_ne]; intro h; rw [h] at hd0; exact absurd hd0.1 (by decide)
          have hv := val_loop d d ha (by omega) d.length 0 (n + 4) 0 (by omega) (by simp) (by omega)
          rw [List.drop_zero] at hv
          rw [hg, Option.bind_some, n45, cond_false, Option.bind_some, n43, Option.bind_some, cond_false]
          rw [show L74_10 (n + 4) d (0 : Int) d (len d) (0 : Int) = _ from hv, Option.bind_some]
          simp only [hg, Option.bind_some, n45, cond_false]
          have hb := vf_bound d 0 0 ha (by omega) (by simp)
          have w : IntKind.wrap .i64 ((0 : Int) - vf 0 d) = -(vf 0 d) := by rw [wrap_id] <;> omega
          rw [w]
          cases b <;> rfl
end Go.Proofs.YtbkdijjliabfdaaGreatDoor

/- Law 5: floats. -/
namespace Go.Proofs.YtbkdijjliabfdaaGreatDoor
open Go Go.Iv Go.Gv
set_option linter.unusedSimpArgs false
set_option linter.unusedVariables false
set_option maxRecDepth 20000

def isNan (s : List UInt8) : Bool := s == [46, 110, 97, 110] || (s == [46, 78, 97, 78] || s == [46, 78, 65, 78])
def isInf (s : List UInt8) : Bool := s == [46, 105, 110, 102] || (s == [46, 73, 110, 102] || s == [46, 73, 78, 70])
def nanv : Num × (Bool × Unit) := ((false, ([], (0, 2))), (true, ()))
def infv (b : Bool) : Num × (Bool × Unit) := ((b, ([], (0, 1))), (true, ()))
def tail (w p v : List UInt8) (b : Bool) : Num × (Bool × Unit) :=
  bif !(ex v).2 || ((w.isEmpty && p.isEmpty) || ilt 5000 (len w + len p)) then no else (norm b (w ++ p) ((ex v).1 - len p), (true, ()))
def num (t : List UInt8) (b : Bool) : Num × (Bool × Unit) :=
  bif pre [46] (t.drop (run t).length) then tail (run t) (run (t.drop ((run t).length + 1))) (t.drop ((run t).length + 1 + (run (t.drop ((run t).length + 1))).length)) b
  else tail (run t) [] (t.drop (run t).length) b
def fl (s : List UInt8) : Num × (Bool × Unit) := bif isNan s then nanv else bif isInf (sgn s).1 then infv (sgn s).2 else num (sgn s).1 (sgn s).2

theorem named_spec (n : Nat) (s : List UInt8) : named n s = some (bif isNan s then nanv else bif isInf (sgn s).1 then infv (sgn s).2 else no) := by
  unfold named isNan isInf
  rw [signed_spec]
  simp only [Option.bind_some]
  cases s == [46, 110, 97, 110] <;> cases s == [46, 78, 97, 78] <;> cases s == [46, 78, 65, 78] <;> cases (sgn s).1 == [46, 105, 110, 102] <;> cases (sgn s).1 == [46, 73, 110, 102] <;> cases (sgn s).1 == [46, 73, 78, 70] <;> rfl

theorem tail_prog (n : Nat) (w p v : List UInt8) (b : Bool) (hw : w.length ≤ 6000) (hp : p.length ≤ 6000) (hn : 20000 ≤ n) :
    (Option.bind (bif (!(ex v).2) then
        some Bool.true
      else
      bif (w == ([] : List UInt8)) then
        bif (p == ([] : List UInt8)) then
          some Bool.true
        else
        some (Go.Iv.ilt (5000 : Int) (Go.IntKind.wrap Go.IntKind.i64 (len w + len p)))
      else
      some (Go.Iv.ilt (5000 : Int) (Go.IntKind.wrap Go.IntKind.i64 (len w + len p)))) fun b7 =>
    bif b7 then
      some no
    else
    bif (room (w.length + p.length)) then
    Option.bind (whole (n + 3) b (w ++ p) (Go.IntKind.wrap Go.IntKind.i64 ((ex v).1 - len p))) fun y8 =>
    some ((y8.1.1, (y8.1.2.1, (y8.1.2.2.1, y8.1.2.2.2))), Bool.true, ())
    else none) = some (tail w p v b) := by
  have hb := ex_bound v
  have w1 : IntKind.wrap .i64 (len w + len p) = len w + len p := by unfold len; rw [wrap_id] <;> omega
  have w2 : IntKind.wrap .i64 ((ex v).1 - len p) = (ex v).1 - len p := by unfold len; rw [wrap_id] <;> omega
  rw [beq_nil, beq_nil, w1, w2, whole_spec (n + 3) b (w ++ p) _ (by unfold len; omega) (by unfold len; omega) (by simp; omega) (by simp; omega), roomle (show w.length + p.length ≤ 1000000 by omega)]
  unfold tail
  cases (ex v).2 <;> cases w.isEmpty <;> cases p.isEmpty <;> cases ilt 5000 (len w + len p) <;> rfl

theorem float_spec (n : Nat) (s : List UInt8) (hs : s.length ≤ 6000) (hn : 20000 ≤ n) : float n s = some (fl s) := by
  unfold float fl
  rw [named_spec, Option.bind_some]
  cases hnan : isNan s with
  | true => rfl
  | false =>
    simp only [cond_false]
    cases hinf : isInf (sgn s).1 with
    | true => rfl
    | false =>
      simp only [cond_false, no]
      rw [signed_spec]
      simp only [Option.bind_some, take_all, Nat.sub_zero, List.drop_zero]
      have hsl := sgn_len s
      generalize (sgn s).1 = t at *
      generalize (sgn s).2 = b at *
      have hr := run_len t
      rw [count_spec (n + 5) t (by omega) (by omega)]
      simp only [Option.bind_some, len, Int.toNat_natCast, ile_t (show (0 : Int) ≤ ((run t).length : Nat) by omega), ile_t (show (((run t).length : Nat) : Int) ≤ (t.length : Nat) by omega), Bool.and_self, cond_true, hasPrefix_spec, run_take, take_all]
      unfold num
      cases hp : pre [46] (t.drop (run t).length) with
      | false =>
        simp only [cond_false]
        rw [exponent_spec n _ (by simp; omega) (by simp; omega)]
        simp only [Option.bind_some]
        have := tail_prog n (run t) [] (t.drop (run t).length) b (by omega) (by simp) hn
        exact this
      | true =>
        have hpl := pre_len _ _ hp
        simp only [List.length_drop, List.length_singleton] at hpl
        have hr2 := run_len (t.drop ((run t).length + 1))
        rw [List.length_drop] at hr2
        simp only [cond_true, List.length_drop, ile_t (show (1 : Int) ≤ ((t.length - (run t).length : Nat) : Int) by omega), List.drop_drop]
        rw [count_spec (n + 5) _ (by simp; omega) (by simp; omega)]
        have w : IntKind.wrap .i64 ((1 : Int) + ((run (t.drop ((run t).length + 1))).length : Nat)) = ((1 + (run (t.drop ((run t).length + 1))).length : Nat) : Int) := by rw [wrap_id] <;> omega
        simp only [Option.bind_some, w, Int.toNat_natCast, ile_t (show (0 : Int) ≤ ((1 + (run (t.drop ((run t).length + 1))).length : Nat) : Int) by omega), ile_t (show (1 : Int) ≤ ((1 + (run (t.drop ((run t).length + 1))).length : Nat) : Int) by omega),
          ile_t (show ((1 + (run (t.drop ((run t).length + 1))).length : Nat) : Int) ≤ ((t.length - (run t).length : Nat) : Int) by omega), Bool.and_self, cond_true]
        have e1 : (run t).length + (1 + (run (t.drop ((run t).length + 1))).length) = (run t).length + 1 + (run (t.drop ((run t).length + 1))).length := by omega
        have e2 : List.take (1 + (run (t.drop ((run t).length + 1))).length - 1) (List.drop ((run t).length + 1) t) = run (t.drop ((run t).length + 1)) := by
          rw [Nat.add_sub_cancel_left, run_take]
        rw [e1, e2, exponent_spec n _ (by simp; omega) (by simp; omega)]
        simp only [Option.bind_some]
        exact tail_prog n (run t) (run (t.drop ((run t).length + 1))) _ b (by omega) (by omega) hn
end Go.Proofs.YtbkdijjliabfdaaGreatDoor

/- Law 5: the reference's floats. -/
namespace Go.Proofs.YtbkdijjliabfdaaGreatDoor
open Go Go.Iv Go.Gv
set_option linter.unusedSimpArgs false
set_option linter.unusedVariables false
set_option maxRecDepth 20000

theorem vR_loop (t4 : List UInt8) (t5 : Bool) (t6 t8 : List UInt8) (t11 : Bool) (d : List UInt8) (c0 : Bool) (c1 : List UInt8) (c2 c3 : Int) (ha : allg d = true) (hl : d.length ≤ 9) : ∀ (m i n : Nat) (a : Int), i + m = d.length → 0 ≤ a ∧ a < 10 ^ i → m + 1 ≤ n →
    L22_25 n t4 t5 t6 t8 a t11 d (d.length : Nat) (i : Int) c0 c1 c2 c3 = some (((), (t4, (t5, (t6, (t8, (vf a (d.drop i), (t11, ()))))))), ((c0, (c1, (c2, (c3, ())))), ())) := by
  intro m
  induction m with
  | zero =>
    intro i n a h hb hn
    obtain ⟨n, rfl⟩ : ∃ k, n = k + 1 := ⟨n - 1, by omega⟩
    simp only [L22_25, ilt_f (show ((d.length : Nat) : Int) ≤ (i : Int) by omega), cond_false, List.drop_eq_nil_of_le (show d.length ≤ i by omega), vf]
  | succ m ih =>
    intro i n a h hb hn
    obtain ⟨n, rfl⟩ : ∃ k, n = k + 1 := ⟨n - 1, by omega⟩
    have hi : i < d.length := by omega
    have hd := allg_get d ha i hi
    have hu := dig_ub _ hd
    obtain ⟨p1, p2, p3⟩ := pow9 i (by omega)
    have w : IntKind.wrap .i64 ((i : Int) + 1) = ((i + 1 : Nat) : Int) := by rw [wrap_id] <;> omega
    have w1 : IntKind.wrap .i64 (IntKind.wrap .i64 (IntKind.wrap .i64 (a * 10) + IntKind.wrap .i64 (ub d[i])) - 48) = a * 10 + (ub d[i] - 48) := by
      rw [ub_wrap, wrap_id (x := a * 10), wrap_id (x := a * 10 + ub d[i]), wrap_id] <;> omega
    have ih := ih (i + 1) n (a * 10 + (ub d[i] - 48)) (by omega) (by rw [p3]; omega) (by omega)
    rw [List.drop_eq_getElem_cons hi]
    simp only [L22_25, ilt_t (show (i : Int) < ((d.length : Nat) : Int) by omega), ile_t (show (0 : Int) ≤ (i : Int) by omega), cond_true, Int.toNat_natCast, List.getElem?_eq_getElem hi, Option.bind_some, w, w1, vf, ih]

def isE : List UInt8 → Bool
  | [] => false
  | c :: _ => c == 101 || c == 69
theorem at_dot (t : List UInt8) (i : Nat) : (bif ilt (i : Int) (len t) then
      bif ile (0 : Int) (i : Int) then
      Option.bind (t[(Int.toNat (i : Int))]?) fun x3 => some (x3 == (46 : UInt8))
      else none
    else some Bool.false) = some (pre [46] (t.drop i)) := by
  by_cases h : i < t.length
  · rw [ilt_t (show (i : Int) < len t by unfold len; omega), cond_true, ile_t (show (0 : Int) ≤ (i : Int) by omega), cond_true, Int.toNat_natCast, List.getElem?_eq_getElem h, Option.bind_some, List.drop_eq_getElem_cons h, pre1]
  · rw [ilt_f (show len t ≤ (i : Int) by unfold len; omega), cond_false, List.drop_eq_nil_of_le (by omega)]; rfl
theorem at_e (t : List UInt8) (i : Nat) : (bif ilt (i : Int) (len t) then
        bif ile (0 : Int) (i : Int) then
        Option.bind (t[(Int.toNat (i : Int))]?) fun x9 =>
        bif (x9 == (101 : UInt8)) then
          some Bool.true
        else
        bif ile (0 : Int) (i : Int) then
        Option.bind (t[(Int.toNat (i : Int))]?) fun x10 =>
        some (x10 == (69 : UInt8))
        else none
        else none
      else
      some Bool.false) = some (isE (t.drop i)) := by
  by_cases h : i < t.length
  · rw [ilt_t (show (i : Int) < len t by unfold len; omega), cond_true, ile_t (show (0 : Int) ≤ (i : Int) by omega), cond_true, Int.toNat_natCast, List.getElem?_eq_getElem h, Option.bind_some, List.drop_eq_getElem_cons h]
    simp only [cond_true, Option.bind_some, isE]
    cases t[i] == 101 <;> rfl
  · rw [ilt_f (show len t ≤ (i : Int) by unfold len; omega), cond_false, List.drop_eq_nil_of_le (by omega)]; rfl
theorem at_ok (d : List UInt8) : (bif (((run d).length : Int) != len d) then
        some Bool.true
      else
      bif (Go.Iv.ilt ((run d).length : Int) (1 : Int)) then
        some Bool.true
      else
      some (Go.Iv.ilt (9 : Int) ((run d).length : Int))) = some (!okx d) := by
  cases ha : allg d with
  | false =>
    have h1 : ¬ ((run d).length = d.length) := fun h => by
      have := (run_all d).1 h
      rw [ha] at this; cases this
    have h2 : (((run d).length : Int) != len d) = true := by
      rw [bne_iff_ne]; unfold len; omega
    have : okx d = false := by unfold okx; rw [ha]; simp
    rw [h2, this]; rfl
  | true =>
    have h2 : (((run d).length : Int) != len d) = false := by
      rw [(run_all d).2 ha]; unfold len; simp
    rw [h2, run_id d ha]
    unfold okx
    rw [ha, Bool.and_true, cond_false]
    cases d with
    | nil => rfl
    | cons c r =>
      rw [ilt_f (show (1 : Int) ≤ ((c :: r).length : Nat) by simp only [List.length_cons]; omega), cond_false]
      by_cases h9 : (c :: r).length ≤ 9
      · rw [ilt_f (show (((c :: r).length : Nat) : Int) ≤ 9 by omega), Nat.ble_eq_true_of_le h9]; rfl
      · have : Nat.ble (c :: r).length 9 = false := by
          cases hq : Nat.ble (c :: r).length 9 with
          | false => rfl
          | true => exact absurd (Nat.le_of_ble_eq_true hq) h9
        rw [ilt_t (show 9 < (((c :: r).length : Nat) : Int) by omega), this]; rfl
/-- The exponent's part of the reference. -/
theorem ex_e (v : List UInt8) (h : isE v = true) : ∃ c r, v = c :: r ∧ ex v = (bif okx (sgn r).1 then (bif (sgn r).2 then -(vf 0 (sgn r).1) else vf 0 (sgn r).1, true) else (0, false)) := by
  cases v with
  | nil => cases h
  | cons c r =>
    refine ⟨c, r, rfl, ?_⟩
    have : (c != 101 && c != 69) = false := by
      simp only [isE] at h
      rw [bne, bne]
      cases h1 : c == 101 <;> cases h2 : c == 69 <;> rw [h1, h2] at h <;> first | rfl | cases h
    simp only [ex, this, cond_false]
theorem ex_n (v : List UInt8) (h : isE v = false) : ex v = (0, v.isEmpty) := by
  cases v with
  | nil => rfl
  | cons c r =>
    have : (c != 101 && c != 69) = true := by
      simp only [isE] at h
      rw [bne, bne]
      cases h1 : c == 101 <;> cases h2 : c == 69 <;> rw [h1, h2] at h <;> first | rfl | cases h
    simp only [ex, this, cond_true, List.isEmpty_cons]
theorem tidy_ref (n : Nat) (w p : List UInt8) (b : Bool) (e : Int) (he : -1000000000 ≤ e ∧ e ≤ 1000000000) (hw : w.length ≤ 6000) (hp : p.length ≤ 6000) (hn : 20000 ≤ n) :
    (bif (room (w.length + p.length)) then
      Option.bind (tidyR n b (w ++ p) (Go.IntKind.wrap Go.IntKind.i64 (e - len p))) fun y20 =>
      some ((y20.1.1, (y20.1.2.1, (y20.1.2.2.1, y20.1.2.2.2))), Bool.true, ())
      else none) = some (norm b (w ++ p) (e - len p), true, ()) := by
  have w2 : IntKind.wrap .i64 (e - len p) = e - len p := by unfold len; rw [wrap_id] <;> omega
  rw [w2, tidyR_spec n b (w ++ p) _ (by unfold len; omega) (by unfold len; omega) (by simp; omega) (by simp; omega), roomle (show w.length + p.length ≤ 1000000 by omega)]
  rfl
/-- What stands behind the digits. -/
theorem tail_ref (n : Nat) (t w p : List UInt8) (b : Bool) (j : Nat) (hj : j ≤ t.length) (ht : t.length ≤ 6000) (hw : w.length ≤ 6000) (hp : p.length ≤ 6000) (hn : 20000 ≤ n)
    (hg : ((w.isEmpty && p.isEmpty) || ilt 5000 (len w + len p)) = false) :
    (Option.bind (bif (Go.Iv.ilt (j : Int) (len t)) then
        bif (Go.Iv.ile (0 : Int) (j : Int)) then
        Option.bind (t[(Int.toNat (j : Int))]?) fun x9 =>
        bif (x9 == (101 : UInt8)) then
          some Bool.true
        else
        bif (Go.Iv.ile (0 : Int) (j : Int)) then
        Option.bind (t[(Int.toNat (j : Int))]?) fun x10 =>
        some (x10 == (69 : UInt8))
        else none
        else none
      else
      some Bool.false) fun b11 =>
    bif b11 then
      bif ((Go.Iv.ile (0 : Int) (Go.IntKind.wrap Go.IntKind.i64 ((j : Int) + (1 : Int)))) && (Go.Iv.ile (Go.IntKind.wrap Go.IntKind.i64 ((j : Int) + (1 : Int))) (len t))) then
      Option.bind (signedR n (List.take ((List.length t) - (Int.toNat (Go.IntKind.wrap Go.IntKind.i64 ((j : Int) + (1 : Int))))) (List.drop (Int.toNat (Go.IntKind.wrap Go.IntKind.i64 ((j : Int) + (1 : Int)))) t))) fun y12 =>
      Option.bind (runR n y12.1 (0 : Int)) fun y13 =>
      Option.bind (bif (y13.2.1 != (len y12.1)) then
          some Bool.true
        else
        bif (Go.Iv.ilt y13.2.1 (1 : Int)) then
          some Bool.true
        else
        some (Go.Iv.ilt (9 : Int) y13.2.1)) fun b15 =>
      bif b15 then
        some ((Bool.false, (([] : List UInt8), ((0 : Int), (0 : Int)))), Bool.false, ())
      else
      Option.bind (L22_25 (n + 2) t b w p (0 : Int) y12.2.1 y13.1 y13.2.1 (0 : Int) Bool.false ([] : List UInt8) (0 : Int) (0 : Int)) fun y19 =>
      bif y19.1.2.2.2.2.2.2.1 then
        bif ((len y19.1.2.1) != (len y19.1.2.1)) then
          some ((Bool.false, (([] : List UInt8), ((0 : Int), (0 : Int)))), Bool.false, ())
        else
        bif (room ((List.length y19.1.2.2.2.1) + (List.length y19.1.2.2.2.2.1))) then
        Option.bind (tidyR n y19.1.2.2.1 (y19.1.2.2.2.1 ++ y19.1.2.2.2.2.1) (Go.IntKind.wrap Go.IntKind.i64 ((Go.IntKind.wrap Go.IntKind.i64 ((0 : Int) - y19.1.2.2.2.2.2.1)) - (len y19.1.2.2.2.2.1)))) fun y20 =>
        some ((y20.1.1, (y20.1.2.1, (y20.1.2.2.1, y20.1.2.2.2))), Bool.true, ())
        else none
      else
      bif ((len y19.1.2.1) != (len y19.1.2.1)) then
        some ((Bool.false, (([] : List UInt8), ((0 : Int), (0 : Int)))), Bool.false, ())
      else
      bif (room ((List.length y19.1.2.2.2.1) + (List.length y19.1.2.2.2.2.1))) then
      Option.bind (tidyR n y19.1.2.2.1 (y19.1.2.2.2.1 ++ y19.1.2.2.2.2.1) (Go.IntKind.wrap Go.IntKind.i64 (y19.1.2.2.2.2.2.1 - (len y19.1.2.2.2.2.1)))) fun y21 =>
      some ((y21.1.1, (y21.1.2.1, (y21.1.2.2.1, y21.1.2.2.2))), Bool.true, ())
      else none
      else none
    else
    bif ((j : Int) != (len t)) then
      some ((Bool.false, (([] : List UInt8), ((0 : Int), (0 : Int)))), Bool.false, ())
    else
    bif (room ((List.length w) + (List.length p))) then
    Option.bind (tidyR n b (w ++ p) (Go.IntKind.wrap Go.IntKind.i64 ((0 : Int) - (len p)))) fun y22 =>
    some ((y22.1.1, (y22.1.2.1, (y22.1.2.2.1, y22.1.2.2.2))), Bool.true, ())
    else none) = some (tail w p (t.drop j) b) := by
  rw [at_e, Option.bind_some]
  unfold tail
  rw [hg, Bool.or_false]
  cases hE : isE (t.drop j) with
  | true =>
    obtain ⟨c, r, hv, hx⟩ := ex_e _ hE
    have hjl : j < t.length := by
      have := congrArg List.length hv
      simp only [List.length_drop, List.length_cons] at this; omega
    have hr : t.drop (j + 1) = r := by
      rw [← List.drop_drop, hv]; rfl
    have wj : IntKind.wrap .i64 ((j : Int) + 1) = ((j + 1 : Nat) : Int) := by rw [wrap_id] <;> omega
    have hrl := congrArg List.length hr
    rw [List.length_drop] at hrl
    have hsl := sgn_len r
    rw [cond_true, wj, ile_t (show (0 : Int) ≤ ((j + 1 : Nat) : Int) by omega), ile_t (show ((j + 1 : Nat) : Int) ≤ len t by unfold len; omega), Bool.and_self, cond_true, Int.toNat_natCast, take_all, hr, signedR_spec, Option.bind_some]
    rw [hx]
    generalize (sgn r).1 = d at *
    generalize (sgn r).2 = m at *
    have hrun := runR_spec n d 0 (by omega) (by omega) (by omega)
    rw [List.drop_zero, Nat.zero_add] at hrun
    rw [show (0 : Int) = ((0 : Nat) : Int) from rfl, hrun, Option.bind_some]
    rw [show ((0 : Nat) : Int) = (0 : Int) from rfl, at_ok, Option.bind_some]
    cases ho : okx d with
    | false => rfl
    | true =>
      unfold okx at ho
      rw [Bool.and_eq_true, Bool.and_eq_true, Nat.ble_eq] at ho
      have hb := vf_bound d 0 0 ho.2.2 (by omega) (by simp)
      have hl := vR_loop t b w p m d false [] 0 0 ho.2.2 ho.2.1 d.length 0 (n + 2) 0 (by omega) (by simp) (by omega)
      rw [List.drop_zero] at hl
      have w0 : IntKind.wrap .i64 ((0 : Int) - vf 0 d) = -(vf 0 d) := by rw [wrap_id] <;> omega
      have hne : ∀ x : Int, (x != x) = false := fun x => by simp
      rw [run_id d ho.2.2, Bool.not_true, cond_false]
      rw [show L22_25 (n + 2) t b w p (0 : Int) m d (d.length : Nat) (0 : Int) false [] 0 0 = _ from hl, Option.bind_some]
      simp only [hne, cond_false, w0, cond_true]
      rw [tidy_ref n w p b _ (by omega) hw hp hn, tidy_ref n w p b _ (by omega) hw hp hn]
      cases m <;> rfl
  | false =>
    rw [cond_false, ex_n _ hE]
    by_cases hl : j = t.length
    · have h1 : ((j : Int) != len t) = false := by subst hl; unfold len; simp
      have h2 : (t.drop j).isEmpty = true := by rw [List.drop_eq_nil_of_le (by omega)]; rfl
      rw [h1, cond_false, tidy_ref n w p b 0 (by omega) hw hp hn, h2]
      rfl
    · have h1 : ((j : Int) != len t) = true := by rw [bne_iff_ne]; unfold len; omega
      have h2 : (t.drop j).isEmpty = false := by
        rw [List.drop_eq_getElem_cons (show j < t.length by omega)]; rfl
      rw [h1, h2]; rfl
end Go.Proofs.YtbkdijjliabfdaaGreatDoor

/- Law 5: which texts are numbers. -/
namespace Go.Proofs.YtbkdijjliabfdaaGreatDoor
open Go Go.Iv Go.Gv
set_option linter.unusedSimpArgs false
set_option linter.unusedVariables false
set_option maxRecDepth 20000

theorem nan_sgn (s : List UInt8) (h : isNan s = true) : isInf (sgn s).1 = false := by
  unfold isNan at h
  rw [Bool.or_eq_true, Bool.or_eq_true, beq_iff_eq, beq_iff_eq, beq_iff_eq] at h
  rcases h with rfl | rfl | rfl <;> decide
theorem floatR_spec (n : Nat) (s : List UInt8) (hs : s.length ≤ 6000) (hn : 20000 ≤ n) : floatR n s = some (fl s) := by
  have hsn := nan_sgn s
  have hsl := sgn_len s
  unfold floatR fl
  rw [signedR_spec]
  rw [Option.bind_some]
  generalize (sgn s).1 = t at *
  generalize (sgn s).2 = b at *
  generalize hX : (Option.bind (runR n t (0 : Int)) _) = X
  have e : X = some (num t b) := by
    rw [← hX]
    clear hX hsn
    have hr := run_len t
    have h1 := runR_spec n t 0 (by omega) (by omega) (by omega)
    rw [List.drop_zero, Nat.zero_add] at h1
    rw [show runR n t (0 : Int) = _ from h1, Option.bind_some]
    unfold num
    generalize hw : run t = w at *
    rw [at_dot, Option.bind_some]
    cases hp : pre [46] (t.drop w.length) with
    | true =>
      have hpl := pre_len _ _ hp
      simp only [List.length_drop, List.length_singleton] at hpl
      have hr2 := run_len (t.drop (w.length + 1))
      rw [List.length_drop] at hr2
      have wi : IntKind.wrap .i64 ((w.length : Int) + 1) = ((w.length + 1 : Nat) : Int) := by rw [wrap_id] <;> omega
      rw [cond_true, cond_true, wi, runR_spec n t (w.length + 1) (by omega) (by omega) (by omega), Option.bind_some]
      generalize hq : run (t.drop (w.length + 1)) = p at *
      have wl : IntKind.wrap .i64 (len w + len p) = len w + len p := by unfold len; rw [wrap_id] <;> omega
      rw [beq_nil, beq_nil, wl]
      have hB : (bif w.isEmpty then bif p.isEmpty then some Bool.true else some (ilt 5000 (len w + len p)) else some (ilt 5000 (len w + len p))) = some ((w.isEmpty && p.isEmpty) || ilt 5000 (len w + len p)) := by
        cases w.isEmpty <;> cases p.isEmpty <;> cases ilt 5000 (len w + len p) <;> rfl
      rw [hB, Option.bind_some]
      cases hg : ((w.isEmpty && p.isEmpty) || ilt 5000 (len w + len p)) with
      | true =>
        unfold tail
        rw [hg]
        rw [Bool.or_true]; rfl
      | false =>
        rw [cond_false]
        exact tail_ref n t w p b (w.length + 1 + p.length) (by omega) (by omega) (by omega) (by omega) hn hg
    | false =>
      rw [cond_false, cond_false]
      have wl : IntKind.wrap .i64 (len w + 0) = len w + 0 := by unfold len; rw [wrap_id] <;> omega
      rw [beq_nil, wl]
      have hB : (bif w.isEmpty then some Bool.true else some (ilt 5000 (len w + 0))) = some ((w.isEmpty && ([] : List UInt8).isEmpty) || ilt 5000 (len w + len ([] : List UInt8))) := by
        show _ = some ((w.isEmpty && true) || ilt 5000 (len w + 0))
        cases w.isEmpty <;> cases ilt 5000 (len w + 0) <;> rfl
      rw [hB, Option.bind_some]
      cases hg : ((w.isEmpty && ([] : List UInt8).isEmpty) || ilt 5000 (len w + len ([] : List UInt8))) with
      | true =>
        unfold tail
        rw [hg]
        rw [Bool.or_true]; rfl
      | false =>
        rw [cond_false]
        have := tail_ref n t w [] b w.length (by omega) (by omega) (by omega) (by simp) hn hg
        have w0 : IntKind.wrap .i64 (0 - len ([] : List UInt8)) = 0 := by decide
        rw [w0] at this
        exact this
  rw [e]
  unfold isNan at hsn
  unfold isNan isInf nanv infv
  unfold isInf at hsn
  cases h1 : t == [46, 105, 110, 102] <;> cases h2 : t == [46, 73, 110, 102] <;> cases h3 : t == [46, 73, 78, 70] <;> rw [h1, h2, h3] at hsn <;>
  cases h4 : s == [46, 110, 97, 110] <;> cases h5 : s == [46, 78, 97, 78] <;> cases h6 : s == [46, 78, 65, 78] <;> rw [h4, h5, h6] at hsn <;> first | rfl | exact absurd (hsn rfl) (by decide)
end Go.Proofs.YtbkdijjliabfdaaGreatDoor

/- Law 19: what JSON tells of a text (the program's). -/
namespace Go.Proofs.YtbkdijjliabfdaaGreatDoor
open Go Go.Iv Go.Gv
set_option linter.unusedSimpArgs false
set_option linter.unusedVariables false
set_option maxRecDepth 20000

def yml : List UInt8 := [(116 : UInt8), (97 : UInt8), (103 : UInt8), (58 : UInt8), (121 : UInt8), (97 : UInt8), (109 : UInt8), (108 : UInt8), (46 : UInt8), (111 : UInt8), (114 : UInt8), (103 : UInt8), (44 : UInt8), (50 : UInt8), (48 : UInt8), (48 : UInt8), (50 : UInt8), (58 : UInt8)]
def sNull : List UInt8 := ([(110 : UInt8), (117 : UInt8), (108 : UInt8), (108 : UInt8)] : List UInt8)
def sBool : List UInt8 := ([(98 : UInt8), (111 : UInt8), (111 : UInt8), (108 : UInt8)] : List UInt8)
def sInt : List UInt8 := ([(105 : UInt8), (110 : UInt8), (116 : UInt8)] : List UInt8)
def sFloat : List UInt8 := ([(102 : UInt8), (108 : UInt8), (111 : UInt8), (97 : UInt8), (116 : UInt8)] : List UInt8)
def sStr : List UInt8 := ([(115 : UInt8), (116 : UInt8), (114 : UInt8)] : List UInt8)

/-! ### Digits -/
theorem dig_all : ∀ k : Fin 256, List.contains ([(48 : UInt8), (49 : UInt8), (50 : UInt8), (51 : UInt8), (52 : UInt8), (53 : UInt8), (54 : UInt8), (55 : UInt8), (56 : UInt8), (57 : UInt8)] : List UInt8) (UInt8.ofNat k.val) = dig (UInt8.ofNat k.val) := by decide +kernel
theorem dig_in (c : UInt8) : List.contains ([(48 : UInt8), (49 : UInt8), (50 : UInt8), (51 : UInt8), (52 : UInt8), (53 : UInt8), (54 : UInt8), (55 : UInt8), (56 : UInt8), (57 : UInt8)] : List UInt8) c = dig c := by
  have := dig_all ⟨c.toNat, c.toNat_lt⟩
  simpa using this
theorem run_drop (s : List UInt8) : s.drop (run s).length = s.dropWhile dig := by
  have h : run s ++ s.dropWhile dig = s := List.takeWhile_append_dropWhile
  have : (run s ++ s.dropWhile dig).drop (run s).length = s.dropWhile dig := List.drop_left' rfl
  rw [h] at this; exact this
theorem countS_spec (n : Nat) (s : List UInt8) (hs : s.length ≤ 1000000) : countS n s = some (((run s).length : Int), ()) := by
  unfold countS Lib.trimLeftS
  have e : (fun c => List.contains ([(48 : UInt8), (49 : UInt8), (50 : UInt8), (51 : UInt8), (52 : UInt8), (53 : UInt8), (54 : UInt8), (55 : UInt8), (56 : UInt8), (57 : UInt8)] : List UInt8) c) = dig := funext dig_in
  rw [e]
  have h : (run s ++ s.dropWhile dig).length = s.length := by rw [show run s ++ s.dropWhile dig = s from List.takeWhile_append_dropWhile]
  rw [List.length_append] at h
  unfold len
  rw [wrap_id (by omega) (by omega), show ((s.length : Nat) : Int) - ((s.dropWhile dig).length : Nat) = ((run s).length : Nat) by omega]

/-! ### Exponents, as JSON has them -/
def okj (t : List UInt8) : Bool := ((run t).length == t.length) && Nat.ble 1 (run t).length && Nat.ble (run t).length 9
def unsign : List UInt8 → List UInt8
  | [] => []
  | c :: r => bif c == 45 || c == 43 then r else c :: r
def expo : List UInt8 → Bool
  | [] => true
  | c :: r => (c == 101 || c == 69) && okj (unsign r)

theorem expo_cons (c : UInt8) (r : List UInt8) : expo (c :: r) = ((c == 101 || c == 69) && okj (unsign r)) := rfl
theorem unsign_cons (c : UInt8) (r : List UInt8) : unsign (c :: r) = bif c == 45 || c == 43 then r else c :: r := rfl

theorem ile_nat (a b : Nat) : ile (a : Int) (b : Int) = Nat.ble a b := by
  rw [ile_eq]
  by_cases h : a ≤ b
  · rw [Nat.ble_eq_true_of_le h]; exact decide_eq_true (by omega)
  · rw [show Nat.ble a b = false from by cases hb : Nat.ble a b with | false => rfl | true => exact absurd (Nat.le_of_ble_eq_true hb) h]; exact decide_eq_false (by omega)
theorem ilt_nat (a b : Nat) : ilt (a : Int) (b : Int) = Nat.ble (a + 1) b := by
  rw [ilt_eq]
  by_cases h : a < b
  · rw [Nat.ble_eq_true_of_le h]; exact decide_eq_true (by omega)
  · rw [show Nat.ble (a + 1) b = false from by cases hb : Nat.ble (a + 1) b with | false => rfl | true => exact absurd (Nat.le_of_ble_eq_true hb) h]; exact decide_eq_false (by omega)
theorem beq_nat (a b : Nat) : (((a : Nat) : Int) == ((b : Nat) : Int)) = (a == b) := by
  rw [Bool.eq_iff_iff, beq_iff_eq, beq_iff_eq]; omega

theorem okjS (n : Nat) (t : List UInt8) (ht : t.length ≤ 1000000) : (Option.bind (countS n t) fun y =>
    Option.bind (bif (y.1 == (len t)) then bif (Go.Iv.ile (1 : Int) y.1) then some (Go.Iv.ile y.1 (9 : Int)) else some Bool.false else some Bool.false) fun b => some (b, ())) = some (okj t, ()) := by
  rw [countS_spec n t ht, Option.bind_some]
  unfold len okj
  simp only [beq_nat, show (1 : Int) = ((1 : Nat) : Int) from rfl, show (9 : Int) = ((9 : Nat) : Int) from rfl, ile_nat]
  cases (run t).length == t.length <;> cases Nat.ble 1 (run t).length <;> rfl

theorem in_signs (n : Nat) (c : UInt8) : L76_2 (n + 3) (ub c) (2 : Int) (0 : Int) ((43 : Int) :: ((45 : Int) :: ([] : List Int))) =
    some (bif c == 43 then .inr ((0, ()), ((43 : Int) :: ((45 : Int) :: ([] : List Int)), ())) else bif c == 45 then .inr ((1, ()), ((43 : Int) :: ((45 : Int) :: ([] : List Int)), ())) else .inl ((), ((43 : Int) :: ((45 : Int) :: ([] : List Int)), ()))) := by
  have h1 : (ub c == 43) = (c == 43) := by
    rw [Bool.eq_iff_iff, beq_iff_eq, beq_iff_eq]; exact (ub_inj (b := 43))
  have h2 : (ub c == 45) = (c == 45) := by
    rw [Bool.eq_iff_iff, beq_iff_eq, beq_iff_eq]; exact (ub_inj (b := 45))
  simp only [L76_2, len, List.length_cons, List.length_nil, show ilt (0 : Int) 2 = true from rfl, show ilt (0 : Int) ((0 + 1 + 1 : Nat) : Int) = true from rfl, show ile (0 : Int) 0 = true from rfl, Bool.and_self, cond_true,
    show Int.toNat 0 = 0 from rfl, List.getElem?_cons_zero, Option.bind_some, h1, show IntKind.wrap .i64 ((0 : Int) + 1) = 1 from rfl, show ilt (1 : Int) 2 = true from rfl, show ilt (1 : Int) ((0 + 1 + 1 : Nat) : Int) = true from rfl, show ile (0 : Int) 1 = true from rfl,
    show Int.toNat 1 = 1 from rfl, List.getElem?_cons_succ, h2, show IntKind.wrap .i64 ((1 : Int) + 1) = 2 from rfl, show ilt (2 : Int) 2 = false from rfl, cond_false]
  cases c == 43 <;> cases c == 45 <;> rfl

theorem exponentS_spec (n : Nat) (s : List UInt8) (hs : s.length ≤ 1000000) (hn : 10 ≤ n) : exponentS n s = some (expo s, ()) := by
  obtain ⟨n, rfl⟩ : ∃ k, n = k + 2 := ⟨n - 2, by omega⟩
  unfold exponentS
  cases s with
  | nil => rfl
  | cons c r =>
    simp only [List.length_cons] at hs
    have e0 : ((c :: r) == ([] : List UInt8)) = false := rfl
    have e1 : ile (1 : Int) (len (c :: r)) = true := ile_t (by unfold len; simp only [List.length_cons]; omega)
    have e2 : List.take ((c :: r).length - 1) (List.drop 1 (c :: r)) = r := take_all (c :: r) 1
    simp only [e0, cond_false, List.getElem?_cons_zero, Option.bind_some, e1, cond_true, e2]
    have hb : (Option.bind (bif c != 101 then some (c != 69) else some Bool.false) fun b => (some b : Option Bool)) = some (!(c == 101 || c == 69)) := by
      unfold bne; cases c == 101 <;> cases c == 69 <;> rfl
    have hb' : (bif c != 101 then some (c != 69) else some Bool.false) = some (!(c == 101 || c == 69)) := by
      unfold bne; cases c == 101 <;> cases c == 69 <;> rfl
    rw [hb', Option.bind_some]
    rw [expo_cons]
    cases hc : (c == 101 || c == 69) with
    | false => rfl
    | true =>
      simp only [Bool.not_true, cond_false, Bool.true_and]
      cases r with
      | nil => exact okjS (n + 2 + 2) [] (by simp)
      | cons d t =>
        simp only [List.length_cons] at hs
        have f0 : ((d :: t) == ([] : List UInt8)) = false := rfl
        have f1 : ile (1 : Int) (len (d :: t)) = true := ile_t (by unfold len; simp only [List.length_cons]; omega)
        have f2 : List.take ((d :: t).length - 1) (List.drop 1 (d :: t)) = t := take_all (d :: t) 1
        simp only [f0, Bool.not_false, cond_true, List.getElem?_cons_zero, Option.bind_some, ub_wrap, in_signs n d]
        rw [unsign_cons]
        cases h1 : d == 43 with
        | true =>
          simp only [cond_true, Option.bind_some, show ile (0 : Int) 0 = true from rfl, f1, f2, Bool.or_true]
          exact okjS _ t (by omega)
        | false =>
          cases h2 : d == 45 with
          | true =>
            simp only [cond_true, cond_false, Option.bind_some, show ile (0 : Int) 1 = true from rfl, f1, f2, Bool.or_false]
            exact okjS _ t (by omega)
          | false =>
            simp only [cond_false, Option.bind_some, Bool.or_false]
            exact okjS _ (d :: t) (by simp only [List.length_cons]; omega)

/-! ### The name -/
def unminus (s : List UInt8) : List UInt8 := bif pre [45] s then s.drop 1 else s
def badw (t : List UInt8) : Bool := (run t).isEmpty || (Nat.ble 2 (run t).length && (t.head? == some 48))
def jtail (r : List UInt8) : List UInt8 := bif expo r then sFloat else sStr
def jfrac : List UInt8 → List UInt8
  | [] => jtail []
  | c :: r => bif c == 46 then bif (run r).isEmpty then sStr else jtail (r.drop (run r).length) else jtail (c :: r)
theorem jfrac_cons (c : UInt8) (r : List UInt8) : jfrac (c :: r) = bif c == 46 then bif (run r).isEmpty then sStr else jtail (r.drop (run r).length) else jtail (c :: r) := rfl
def jbody (big : Bool) (t : List UInt8) : List UInt8 :=
  bif badw t || big then sStr else bif (t.drop (run t).length).isEmpty then sInt else jfrac (t.drop (run t).length)
def jname (s : List UInt8) : List UInt8 :=
  bif s == [] || s == ([(110 : UInt8), (117 : UInt8), (108 : UInt8), (108 : UInt8)] : List UInt8) then sNull else bif s == ([(116 : UInt8), (114 : UInt8), (117 : UInt8), (101 : UInt8)] : List UInt8) || s == ([(102 : UInt8), (97 : UInt8), (108 : UInt8), (115 : UInt8), (101 : UInt8)] : List UInt8) then sBool else jbody (Nat.ble 5001 s.length) (unminus s)

theorem isEmpty_len (l : List UInt8) : (l.length == 0) = l.isEmpty := by cases l <;> rfl
theorem wholeS_spec (n : Nat) (s : List UInt8) (hs : s.length ≤ 1000000) : wholeS n s = some (bif badw (unminus s) then [] else (unminus s).drop (run (unminus s)).length, !badw (unminus s), ()) := by
  unfold wholeS
  rw [trimPrefix_spec, Option.bind_some]
  have hl : (unminus s).length ≤ s.length := by unfold unminus; cases pre [45] s <;> simp
  show (Option.bind (countS (n + 1) (unminus s)) _) = _
  rw [countS_spec _ _ (by omega), Option.bind_some]
  have r1 := run_len (unminus s)
  have hd : (bif pre [45] s then List.drop ([45] : List UInt8).length s else s) = unminus s := rfl
  simp only [hd, show (0 : Int) = ((0 : Nat) : Int) from rfl, show (1 : Int) = ((1 : Nat) : Int) from rfl, beq_nat, isEmpty_len, ilt_nat]
  unfold badw
  cases h1 : (run (unminus s)).isEmpty with
  | true => rfl
  | false =>
    cases h2 : Nat.ble (1 + 1) (run (unminus s)).length with
    | false =>
      simp only [cond_false, Option.bind_some, Bool.false_or, h2, Bool.false_and, len, ile_nat, Nat.ble_eq_true_of_le r1, Nat.ble_eq_true_of_le (Nat.zero_le _), Bool.and_self, cond_true, Int.toNat_natCast, take_all, Bool.not_false]
    | true =>
      have : ∃ c r, unminus s = c :: r := by
        cases hu : unminus s with
        | nil => rw [hu] at h2; cases h2
        | cons c r => exact ⟨c, r, rfl⟩
      obtain ⟨c, r, hu⟩ := this
      rw [hu] at r1 h2 ⊢
      simp only [cond_false, cond_true, List.getElem?_cons_zero, Option.bind_some, Bool.false_or, h2, Bool.true_and, List.head?_cons]
      have : (some c == some (48 : UInt8)) = (c == 48) := rfl
      rw [this]
      cases c == 48 with
      | true => rfl
      | false => simp only [cond_false, len, ile_nat, Nat.ble_eq_true_of_le r1, Nat.ble_eq_true_of_le (Nat.zero_le _), Bool.and_self, cond_true, Int.toNat_natCast, take_all, Bool.not_false]

theorem fracS (n : Nat) (r : List UInt8) (hr : r.length ≤ 1000000) (hn : 10 ≤ n) : (Option.bind (fractionS (n + 1) r) fun y3 =>
  bif y3.2.1 then
    Option.bind (exponentS n y3.1) fun y4 =>
    bif y4.1 then
      some (sFloat, ())
    else
    some (sStr, ())
  else
  some (sStr, ())) = some (jfrac r, ()) := by
  have tail : ∀ t : List UInt8, t.length ≤ 1000000 → (Option.bind (exponentS n t) fun y4 => bif y4.1 then some (sFloat, ()) else some (sStr, ())) = some (jtail t, ()) := fun t ht => by
    rw [exponentS_spec n t ht hn, Option.bind_some]; unfold jtail; cases expo t <;> rfl
  unfold fractionS
  rw [cutPrefix_spec, Option.bind_some]
  cases r with
  | nil => exact tail [] (by simp)
  | cons c r =>
    simp only [List.length_cons] at hr
    rw [pre1, jfrac_cons]
    cases c == 46 with
    | false => exact tail (c :: r) (by simp only [List.length_cons]; omega)
    | true =>
      have r1 := run_len r
      simp only [cond_true, Bool.not_true, cond_false, List.length_cons, List.length_nil, Nat.zero_add, List.drop_succ_cons, List.drop_zero]
      rw [countS_spec _ r (by omega), Option.bind_some]
      simp only [len, show (0 : Int) = ((0 : Nat) : Int) from rfl, ile_nat, ilt_nat, Nat.ble_eq_true_of_le r1, Nat.ble_eq_true_of_le (Nat.zero_le _), Bool.and_self, cond_true, Int.toNat_natCast, take_all, Option.bind_some]
      cases hq : run r with
      | nil => rfl
      | cons a b => exact tail _ (by simp only [List.length_drop]; omega)

theorem jsonS_spec (n : Nat) (s : List UInt8) (hs : s.length ≤ 1000000) (hn : 10 ≤ n) : jsonS n s = some (jname s, ()) := by
  unfold jsonS jname
  cases h1 : (s == ([] : List UInt8)) with
  | true => rfl
  | false =>
  cases h2 : (s == ([(110 : UInt8), (117 : UInt8), (108 : UInt8), (108 : UInt8)] : List UInt8)) with
  | true => rfl
  | false =>
  cases h3 : (s == ([(116 : UInt8), (114 : UInt8), (117 : UInt8), (101 : UInt8)] : List UInt8)) with
  | true => rfl
  | false =>
  cases h4 : (s == ([(102 : UInt8), (97 : UInt8), (108 : UInt8), (115 : UInt8), (101 : UInt8)] : List UInt8)) with
  | true => rfl
  | false =>
    simp only [cond_false, Bool.or_false]
    rw [wholeS_spec _ s hs, Option.bind_some]
    have hl : (unminus s).length ≤ s.length := by unfold unminus; cases pre [45] s <;> simp
    simp only [len, show (5000 : Int) = ((5000 : Nat) : Int) from rfl, ilt_nat]
    unfold jbody
    cases Nat.ble (5000 + 1) s.length with
    | true => simp only [cond_true, Option.bind_some, Bool.or_true]; rfl
    | false =>
      cases hb : badw (unminus s) with
      | true => rfl
      | false =>
        simp only [Bool.not_false, Bool.not_true, cond_false, Option.bind_some, Bool.or_false]
        have e : ((unminus s).drop (run (unminus s)).length == ([] : List UInt8)) = ((unminus s).drop (run (unminus s)).length).isEmpty := beq_nil _
        rw [e]
        cases h5 : ((unminus s).drop (run (unminus s)).length).isEmpty with
        | true => rfl
        | false => exact fracS n _ (by simp only [List.length_drop]; omega) hn
end Go.Proofs.YtbkdijjliabfdaaGreatDoor

/- Law 19: what JSON tells of a text (the reference's). -/
namespace Go.Proofs.YtbkdijjliabfdaaGreatDoor
open Go Go.Iv Go.Gv
set_option linter.unusedSimpArgs false
set_option linter.unusedVariables false
set_option maxRecDepth 20000

noncomputable def tailR (n : Nat) (s : List UInt8) (p : Int) : Option ((List UInt8) × Unit) :=
  Option.bind (bif (Go.Iv.ilt p (len s)) then
      bif (Go.Iv.ile (0 : Int) p) then
      Option.bind (s[(Int.toNat p)]?) fun x56 =>
      bif (x56 == (101 : UInt8)) then
        some Bool.true
      else
      bif (Go.Iv.ile (0 : Int) p) then
      Option.bind (s[(Int.toNat p)]?) fun x57 =>
      some (x57 == (69 : UInt8))
      else none
      else none
    else
    some Bool.false) fun b58 =>
  bif b58 then
    Option.bind (bif (Go.Iv.ilt (Go.IntKind.wrap Go.IntKind.i64 (p + (1 : Int))) (len s)) then
        bif (Go.Iv.ile (0 : Int) (Go.IntKind.wrap Go.IntKind.i64 (p + (1 : Int)))) then
        Option.bind (s[(Int.toNat (Go.IntKind.wrap Go.IntKind.i64 (p + (1 : Int))))]?) fun x60 =>
        bif (x60 == (45 : UInt8)) then
          some Bool.true
        else
        bif (Go.Iv.ile (0 : Int) (Go.IntKind.wrap Go.IntKind.i64 (p + (1 : Int)))) then
        Option.bind (s[(Int.toNat (Go.IntKind.wrap Go.IntKind.i64 (p + (1 : Int))))]?) fun x61 =>
        some (x61 == (43 : UInt8))
        else none
        else none
      else
      some Bool.false) fun b62 =>
    bif b62 then
      Option.bind (digitsJ n s (Go.IntKind.wrap Go.IntKind.i64 ((Go.IntKind.wrap Go.IntKind.i64 (p + (1 : Int))) + (1 : Int)))) fun y63 =>
      Option.bind (bif (Go.Iv.ilt y63.1 (1 : Int)) then
          some Bool.true
        else
        some (Go.Iv.ilt (9 : Int) y63.1)) fun b65 =>
      bif b65 then
        some ((yml ++ ([(115 : UInt8), (116 : UInt8), (114 : UInt8)] : List UInt8)), ())
      else
      bif ((Go.IntKind.wrap Go.IntKind.i64 ((Go.IntKind.wrap Go.IntKind.i64 ((Go.IntKind.wrap Go.IntKind.i64 (p + (1 : Int))) + (1 : Int))) + y63.1)) != (len s)) then
        some ((yml ++ ([(115 : UInt8), (116 : UInt8), (114 : UInt8)] : List UInt8)), ())
      else
      some ((yml ++ ([(102 : UInt8), (108 : UInt8), (111 : UInt8), (97 : UInt8), (116 : UInt8)] : List UInt8)), ())
    else
    Option.bind (digitsJ n s (Go.IntKind.wrap Go.IntKind.i64 (p + (1 : Int)))) fun y66 =>
    Option.bind (bif (Go.Iv.ilt y66.1 (1 : Int)) then
        some Bool.true
      else
      some (Go.Iv.ilt (9 : Int) y66.1)) fun b68 =>
    bif b68 then
      some ((yml ++ ([(115 : UInt8), (116 : UInt8), (114 : UInt8)] : List UInt8)), ())
    else
    bif ((Go.IntKind.wrap Go.IntKind.i64 ((Go.IntKind.wrap Go.IntKind.i64 (p + (1 : Int))) + y66.1)) != (len s)) then
      some ((yml ++ ([(115 : UInt8), (116 : UInt8), (114 : UInt8)] : List UInt8)), ())
    else
    some ((yml ++ ([(102 : UInt8), (108 : UInt8), (111 : UInt8), (97 : UInt8), (116 : UInt8)] : List UInt8)), ())
  else
  bif (p != (len s)) then
    some ((yml ++ ([(115 : UInt8), (116 : UInt8), (114 : UInt8)] : List UInt8)), ())
  else
  some ((yml ++ ([(102 : UInt8), (108 : UInt8), (111 : UInt8), (97 : UInt8), (116 : UInt8)] : List UInt8)), ())
  
noncomputable def bodyR (n : Nat) (s : List UInt8) (i : Int) : Option ((List UInt8) × Unit) :=
  Option.bind (digitsJ n s i) fun y35 =>
  Option.bind (bif (y35.1 == (0 : Int)) then
      some Bool.true
    else
    bif (Go.Iv.ilt (1 : Int) y35.1) then
      Option.bind (s[(Int.toNat i)]?) fun x37 =>
      bif (x37 == (48 : UInt8)) then
        some Bool.true
      else
      some (Go.Iv.ilt (5000 : Int) (len s))
    else
    some (Go.Iv.ilt (5000 : Int) (len s))) fun b38 =>
  bif b38 then
    some ((yml ++ ([(115 : UInt8), (116 : UInt8), (114 : UInt8)] : List UInt8)), ())
  else
  bif ((Go.IntKind.wrap Go.IntKind.i64 (i + y35.1)) == (len s)) then
    some ((yml ++ ([(105 : UInt8), (110 : UInt8), (116 : UInt8)] : List UInt8)), ())
  else
  bif (Go.Iv.ile (0 : Int) (Go.IntKind.wrap Go.IntKind.i64 (i + y35.1))) then
  Option.bind (s[(Int.toNat (Go.IntKind.wrap Go.IntKind.i64 (i + y35.1)))]?) fun x39 =>
  bif (x39 == (46 : UInt8)) then
    Option.bind (digitsJ n s (Go.IntKind.wrap Go.IntKind.i64 ((Go.IntKind.wrap Go.IntKind.i64 (i + y35.1)) + (1 : Int)))) fun y40 =>
    bif (y40.1 == (0 : Int)) then
      some ((yml ++ ([(115 : UInt8), (116 : UInt8), (114 : UInt8)] : List UInt8)), ())
    else
    tailR n s (Go.IntKind.wrap Go.IntKind.i64 ((Go.IntKind.wrap Go.IntKind.i64 ((Go.IntKind.wrap Go.IntKind.i64 (i + y35.1)) + (1 : Int))) + y40.1))
  else
  tailR n s (Go.IntKind.wrap Go.IntKind.i64 (i + y35.1))
  else none

theorem jsonR_parts (n : Nat) (s : List UInt8) : jsonR n s = (bif (s == ([(110 : UInt8), (117 : UInt8), (108 : UInt8), (108 : UInt8)] : List UInt8)) then some (yml ++ sNull, ()) else bif (s == ([] : List UInt8)) then some (yml ++ sNull, ()) else
  bif (s == ([(116 : UInt8), (114 : UInt8), (117 : UInt8), (101 : UInt8)] : List UInt8)) then some (yml ++ sBool, ()) else bif (s == ([(102 : UInt8), (97 : UInt8), (108 : UInt8), (115 : UInt8), (101 : UInt8)] : List UInt8)) then some (yml ++ sBool, ()) else
  Option.bind (beginsR (n + 1) s ([(45 : UInt8)] : List UInt8)) fun y0 => bif y0.1 then bodyR n s 1 else bodyR n s 0) := rfl

theorem digits_loop (s : List UInt8) (i : Nat) : ∀ (m k n : Nat), i + k + m = s.length → s.length ≤ 1000000 → m + 1 ≤ n → L31_2 n s (i : Int) (k : Int) = some ((((k + (run (s.drop (i + k))).length : Nat) : Int), ()), ()) := by
  intro m
  induction m with
  | zero =>
    intro k n h hs hn
    obtain ⟨n, rfl⟩ : ∃ k, n = k + 1 := ⟨n - 1, by omega⟩
    have w : IntKind.wrap .i64 ((i : Int) + (k : Int)) = ((i + k : Nat) : Int) := by rw [wrap_id] <;> omega
    simp only [L31_2, w, len, ilt_f (show ((s.length : Nat) : Int) ≤ ((i + k : Nat) : Int) by omega), cond_false, Option.bind_some, List.drop_eq_nil_of_le (show s.length ≤ i + k by omega)]
    rfl
  | succ m ih =>
    intro k n h hs hn
    obtain ⟨n, rfl⟩ : ∃ k, n = k + 1 := ⟨n - 1, by omega⟩
    have hi : i + k < s.length := by omega
    have w0 : IntKind.wrap .i64 ((i : Int) + (k : Int)) = ((i + k : Nat) : Int) := by rw [wrap_id] <;> omega
    have w : IntKind.wrap .i64 ((k : Int) + 1) = ((k + 1 : Nat) : Int) := by rw [wrap_id] <;> omega
    have z : Go.Iv.ile (0 : Int) ((i + k : Nat) : Int) = true := ile_t (by omega)
    rw [List.drop_eq_getElem_cons hi]
    simp only [L31_2, w0, len, ilt_t (show ((i + k : Nat) : Int) < ((s.length : Nat) : Int) by omega), z, cond_true, Int.toNat_natCast, List.getElem?_eq_getElem hi, Option.bind_some, w]
    generalize hc : s[i + k] = c
    simp only [run, List.takeWhile, dig]
    have e1 : UInt8.toNat 48 = 48 := rfl
    have e2 : UInt8.toNat 57 = 57 := rfl
    rw [e1, e2]
    cases h1 : Nat.ble 48 c.toNat with
    | false => simp only [cond_false, Option.bind_some, Bool.false_and]; rfl
    | true =>
      simp only [cond_true, Option.bind_some, Bool.true_and]
      cases h2 : Nat.ble c.toNat 57 with
      | false => simp only [cond_false]; rfl
      | true =>
        simp only [cond_true]
        rw [ih (k + 1) n (by omega) hs (by omega)]
        simp only [run, List.length_cons, Nat.add_assoc]
        congr 4; omega

theorem digitsJ_spec (n : Nat) (s : List UInt8) (i : Nat) (hi : i ≤ s.length) (hs : s.length ≤ 1000000) (hn : s.length ≤ n) : digitsJ n s (i : Int) = some (((run (s.drop i)).length : Int), ()) := by
  unfold digitsJ
  have := digits_loop s i (s.length - i) 0 (n + 1) (by omega) hs (by omega)
  rw [show (0 : Int) = ((0 : Nat) : Int) from rfl, this, Nat.zero_add, Nat.add_zero]
  rfl

/-- The end of an exponent. -/
theorem endR (n : Nat) (s : List UInt8) (q : Nat) (hq : q ≤ s.length) (hs : s.length ≤ 1000000) (hn : s.length ≤ n) : (Option.bind (digitsJ n s (q : Int)) fun y =>
    Option.bind (bif (Go.Iv.ilt y.1 (1 : Int)) then some Bool.true else some (Go.Iv.ilt (9 : Int) y.1)) fun b =>
    bif b then some (yml ++ sStr, ()) else bif ((Go.IntKind.wrap Go.IntKind.i64 ((q : Int) + y.1)) != (len s)) then some (yml ++ sStr, ()) else some (yml ++ sFloat, ())) = some (yml ++ (bif okj (s.drop q) then sFloat else sStr), ()) := by
  have r1 := run_len (s.drop q)
  rw [List.length_drop] at r1
  rw [digitsJ_spec n s q hq hs hn, Option.bind_some]
  have w : IntKind.wrap .i64 ((q : Int) + ((run (s.drop q)).length : Int)) = ((q + (run (s.drop q)).length : Nat) : Int) := by rw [wrap_id] <;> omega
  unfold okj len
  simp only [w, bne, beq_nat, show (1 : Int) = ((1 : Nat) : Int) from rfl, show (9 : Int) = ((9 : Nat) : Int) from rfl, ilt_nat, List.length_drop]
  have e1 : (q + (run (s.drop q)).length == s.length) = ((run (s.drop q)).length == s.length - q) := by rw [Bool.eq_iff_iff, beq_iff_eq, beq_iff_eq]; omega
  have e2 : Nat.ble ((run (s.drop q)).length + 1) 1 = !Nat.ble 1 (run (s.drop q)).length := by rw [Bool.eq_iff_iff, Bool.not_eq_true', ← Bool.not_eq_true, Nat.ble_eq, Nat.ble_eq]; omega
  have e3 : Nat.ble (9 + 1) (run (s.drop q)).length = !Nat.ble (run (s.drop q)).length 9 := by rw [Bool.eq_iff_iff, Bool.not_eq_true', ← Bool.not_eq_true, Nat.ble_eq, Nat.ble_eq]; omega
  rw [e1, e2, e3]
  cases (run (s.drop q)).length == s.length - q <;> cases Nat.ble 1 (run (s.drop q)).length <;> cases Nat.ble (run (s.drop q)).length 9 <;> rfl

theorem tailR_spec (n : Nat) (s : List UInt8) (p : Nat) (hp : p ≤ s.length) (hs : s.length ≤ 1000000) (hn : s.length ≤ n) : tailR n s (p : Int) = some (yml ++ jtail (s.drop p), ()) := by
  unfold tailR jtail
  have zp : ∀ k : Nat, ile (0 : Int) (k : Int) = true := fun k => ile_t (by omega)
  rcases Nat.lt_or_ge p s.length with h | h
  · have hget : s[p]? = some s[p] := List.getElem?_eq_getElem h
    have hd : s.drop p = s[p] :: s.drop (p + 1) := List.drop_eq_getElem_cons h
    have w1 : IntKind.wrap .i64 ((p : Int) + 1) = ((p + 1 : Nat) : Int) := by rw [wrap_id] <;> omega
    have w2 : IntKind.wrap .i64 (((p + 1 : Nat) : Int) + 1) = ((p + 2 : Nat) : Int) := by rw [wrap_id] <;> omega
    have hne : (((p : Nat) : Int) != len s) = true := by unfold len bne; rw [beq_nat]; simp; omega
    rw [hd, expo_cons]
    simp only [w1, w2, len, ilt_t (show ((p : Nat) : Int) < ((s.length : Nat) : Int) by omega), zp, cond_true, Int.toNat_natCast, hget, Option.bind_some]
    generalize hc : s[p] = c
    have hb : (bif c == 101 then some Bool.true else some (c == 69)) = some (c == 101 || c == 69) := by cases c == 101 <;> rfl
    rw [hb, Option.bind_some]
    cases c == 101 || c == 69 with
    | false => unfold len at hne; simp only [cond_false, hne, cond_true, Bool.false_and]; rfl
    | true =>
      simp only [cond_true, Bool.true_and]
      rcases Nat.lt_or_ge (p + 1) s.length with h1 | h1
      · have hget1 : s[p + 1]? = some s[p + 1] := List.getElem?_eq_getElem h1
        have hd1 : s.drop (p + 1) = s[p + 1] :: s.drop (p + 2) := List.drop_eq_getElem_cons h1
        rw [hd1, unsign_cons]
        simp only [ilt_t (show ((p + 1 : Nat) : Int) < ((s.length : Nat) : Int) by omega), cond_true, hget1, Option.bind_some]
        generalize hc1 : s[p + 1] = d at hd1
        have hb1 : (bif d == 45 then some Bool.true else some (d == 43)) = some (d == 45 || d == 43) := by cases d == 45 <;> rfl
        rw [hb1, Option.bind_some]
        cases d == 45 || d == 43 with
        | true => exact endR n s (p + 2) (by omega) hs hn
        | false =>
          simp only [cond_false]
          rw [← hd1]
          exact endR n s (p + 1) (by omega) hs hn
      · have hnil : s.drop (p + 1) = [] := List.drop_eq_nil_of_le h1
        rw [hnil]
        simp only [ilt_f (show ((s.length : Nat) : Int) ≤ ((p + 1 : Nat) : Int) by omega), cond_false, Option.bind_some]
        have := endR n s (p + 1) (by omega) hs hn
        rw [hnil] at this
        exact this
  · have hnil : s.drop p = [] := List.drop_eq_nil_of_le h
    have hp' : p = s.length := by omega
    have hne : (((p : Nat) : Int) != len s) = false := by unfold len bne; rw [beq_nat, hp']; simp
    rw [hnil]
    simp only [hne, len, ilt_f (show ((s.length : Nat) : Int) ≤ ((p : Nat) : Int) by omega), cond_false, Option.bind_some]
    rw [show ((p : Int) != (s.length : Int)) = false from hne]
    rfl

theorem bodyR_spec (n : Nat) (s : List UInt8) (i : Nat) (hi : i ≤ s.length) (hs : s.length ≤ 100000) (hn : s.length ≤ n) : bodyR n s (i : Int) = some (yml ++ jbody (Nat.ble 5001 s.length) (s.drop i), ()) := by
  have r1 := run_len (s.drop i)
  rw [List.length_drop] at r1
  unfold bodyR
  rw [digitsJ_spec n s i hi (by omega) hn, Option.bind_some]
  have zp : ∀ k : Nat, ile (0 : Int) (k : Int) = true := fun k => ile_t (by omega)
  have w : IntKind.wrap .i64 ((i : Int) + ((run (s.drop i)).length : Int)) = ((i + (run (s.drop i)).length : Nat) : Int) := by rw [wrap_id] <;> omega
  have w1 : IntKind.wrap .i64 (((i + (run (s.drop i)).length : Nat) : Int) + 1) = ((i + (run (s.drop i)).length + 1 : Nat) : Int) := by rw [wrap_id] <;> omega
  have hhead : Nat.ble (1 + 1) (run (s.drop i)).length = true → s[i]? = (s.drop i).head? := fun _ => by rw [List.head?_drop]
  have hX : (bif ((((run (s.drop i)).length : Nat) : Int) == (0 : Int)) then some Bool.true else bif ilt (1 : Int) (((run (s.drop i)).length : Nat) : Int) then Option.bind (s[Int.toNat (i : Int)]?) fun x37 => bif (x37 == (48 : UInt8)) then some Bool.true else some (ilt (5000 : Int) (len s)) else some (ilt (5000 : Int) (len s))) = some (badw (s.drop i) || Nat.ble 5001 s.length) := by
    unfold badw len
    simp only [show (0 : Int) = ((0 : Nat) : Int) from rfl, show (1 : Int) = ((1 : Nat) : Int) from rfl, show (5000 : Int) = ((5000 : Nat) : Int) from rfl, beq_nat, ilt_nat, isEmpty_len, Int.toNat_natCast]
    cases (run (s.drop i)).isEmpty with
    | true => rfl
    | false =>
      cases h2 : Nat.ble (1 + 1) (run (s.drop i)).length with
      | false => simp only [cond_false, Bool.false_or, h2, Bool.false_and]
      | true =>
        rw [hhead h2]
        cases hh : (s.drop i).head? with
        | none =>
          have : (s.drop i) = [] := List.head?_eq_none_iff.1 hh
          rw [this] at h2; cases h2
        | some c =>
          have : (some c == some (48 : UInt8)) = (c == 48) := rfl
          simp only [cond_true, cond_false, Option.bind_some, Bool.false_or, h2, Bool.true_and, this]
          cases c == 48 <;> rfl
  rw [hX, Option.bind_some]
  unfold jbody
  cases badw (s.drop i) || Nat.ble 5001 s.length with
  | true => rfl
  | false =>
    simp only [cond_false, w, w1]
    have he : (((i + (run (s.drop i)).length : Nat) : Int) == len s) = ((s.drop i).drop (run (s.drop i)).length).isEmpty := by
      unfold len
      rw [beq_nat, ← isEmpty_len, List.length_drop, List.length_drop, Bool.eq_iff_iff, beq_iff_eq, beq_iff_eq]; omega
    rw [he]
    cases hr : (s.drop i).drop (run (s.drop i)).length with
    | nil => rfl
    | cons c r =>
      have hlt : i + (run (s.drop i)).length < s.length := by
        have : ((s.drop i).drop (run (s.drop i)).length).length = (c :: r).length := by rw [hr]
        rw [List.length_drop, List.length_drop, List.length_cons] at this; omega
      have hd : s.drop (i + (run (s.drop i)).length) = c :: r := by rw [← hr, List.drop_drop]
      have hd1 : s.drop (i + (run (s.drop i)).length + 1) = r := by
        rw [← List.drop_drop, hd]; rfl
      have hget : s[i + (run (s.drop i)).length]? = some c := by
        rw [← List.head?_drop, hd]; rfl
      have hE : (c :: r).isEmpty = false := rfl
      rw [jfrac_cons]
      simp only [hE, cond_false, zp, cond_true, Int.toNat_natCast, hget, Option.bind_some]
      cases c == 46 with
      | false =>
        simp only [cond_false]
        rw [tailR_spec n s _ (by omega) (by omega) hn, hd]
      | true =>
        simp only [cond_true]
        have r2 := run_len r
        have hrl : r.length + 1 = s.length - (i + (run (s.drop i)).length) := by
          have : (s.drop (i + (run (s.drop i)).length)).length = (c :: r).length := by rw [hd]
          rw [List.length_drop, List.length_cons] at this; omega
        rw [digitsJ_spec n s _ (by omega) (by omega) hn, Option.bind_some, hd1]
        have w2 : IntKind.wrap .i64 (((i + (run (s.drop i)).length + 1 : Nat) : Int) + ((run r).length : Int)) = ((i + (run (s.drop i)).length + 1 + (run r).length : Nat) : Int) := by rw [wrap_id] <;> omega
        simp only [w2, show (0 : Int) = ((0 : Nat) : Int) from rfl, beq_nat, isEmpty_len]
        cases (run r).isEmpty with
        | true => rfl
        | false =>
          simp only [cond_false]
          rw [tailR_spec n s _ (by omega) (by omega) hn, ← List.drop_drop, hd1]

theorem jsonR_spec (n : Nat) (s : List UInt8) (hs : s.length ≤ 100000) (hn : s.length ≤ n) : jsonR n s = some (yml ++ jname s, ()) := by
  rw [jsonR_parts]
  unfold jname
  have b0 := bodyR_spec n s 0 (by omega) hs hn
  rw [List.drop_zero] at b0
  cases h1 : (s == ([] : List UInt8)) with
  | true =>
    have : s = [] := by simpa using h1
    subst this; rfl
  | false =>
    have hne : 1 ≤ s.length := by cases s with | nil => cases h1 | cons a b => simp
    have b1 := bodyR_spec n s 1 hne hs hn
    generalize (s == [110, 117, 108, 108]) = x1
    generalize (s == [116, 114, 117, 101]) = x2
    generalize (s == [102, 97, 108, 115, 101]) = x3
    cases x1 with
    | true => rfl
    | false =>
      cases x2 with
      | true => rfl
      | false =>
        cases x3 with
        | true => rfl
        | false =>
          simp only [cond_false, Bool.or_false]
          rw [beginsR_spec, Option.bind_some]
          unfold unminus
          cases pre [45] s with
          | true => exact b1
          | false => exact b0
end Go.Proofs.YtbkdijjliabfdaaGreatDoor

/- Plain functions for the program's. -/
namespace Go.Proofs.YtbkdijjliabfdaaGreatDoor
open Go Go.Iv Go.Gv
set_option maxRecDepth 100000
set_option linter.unusedVariables false
noncomputable def schemaResolves (n : Nat) (kind : Int) (tag : List UInt8) (s : List UInt8) (pl : Bool) (which : Int) : Option (Bool × Unit) :=
  Option.bind (alive n ) fun y0 =>
  Option.bind (bif (!y0.1) then
      some Bool.true
    else
    bif (Go.Iv.ilt (300 : Int) (len s)) then
      some Bool.true
    else
    some (Go.Iv.ilt (300 : Int) (len tag))) fun b2 =>
  bif b2 then
    some (y0.1, ())
  else
  Option.bind (resolveS (n + 1) kind tag s pl which) fun y3 =>
  Option.bind (resolveR (n + 5) kind tag s pl which) fun y4 =>
  bif (y3.1 == y4.1) then
    Option.bind (defaultS (n + 10) kind) fun y5 =>
    Option.bind (defaultR (n + 10) kind) fun y6 =>
    some ((y5.1 == y6.1), ())
  else
  some (Bool.false, ())
noncomputable def schemaResolves_it : FnIt := ⟨3, [(false, (.int .i64)), (false, .str), (false, .str), (false, .bool), (false, (.int .i64))], [(false, .bool)], 11, fun n x => schemaResolves n x.1 x.2.1 x.2.2.1 x.2.2.2.1 x.2.2.2.2.1⟩
theorem schemaResolves_ok (n : Nat) : FnOK Go.Proofs.Tryz.prog hint shT schemaResolves_it n :=
  FnOK.of (hk := fun β => (Known.mk [defaultR_it, defaultS_it, resolveR_it, resolveS_it, alive_it] []).hk β) (sh := shT) (fun m _ => KnownOK.hook (((((KnownOK.nil.fn alive_ok).fn resolveS_ok).fn resolveR_ok).fn defaultS_ok).fn defaultR_ok) m) (fun x => by kernel_rfl)

noncomputable def schemaValues (n : Nat) (tag : List UInt8) (s : List UInt8) : Option (Bool × Unit) :=
  Option.bind (alive n ) fun y0 =>
  Option.bind (bif (!y0.1) then
      some Bool.true
    else
    bif (Go.Iv.ilt (300 : Int) (len s)) then
      some Bool.true
    else
    some (Go.Iv.ilt (300 : Int) (len tag))) fun b2 =>
  bif b2 then
    some (y0.1, ())
  else
  Option.bind (valueS (n + 1) tag s) fun y3 =>
  Option.bind (valueR (n + 6) tag s) fun y4 =>
  bif (y3.2.1 == y4.2.1) then
    bif (y3.1.1 == y4.1.1) then
      bif (y3.1.2.1 == y4.1.2.1) then
        bif ((y3.1.2.2.1.1 == y4.1.2.2.1.1) && ((y3.1.2.2.1.2.1 == y4.1.2.2.1.2.1) && ((y3.1.2.2.1.2.2.1 == y4.1.2.2.1.2.2.1) && ((y3.1.2.2.1.2.2.2 == y4.1.2.2.1.2.2.2) && Bool.true)))) then
          some ((y3.1.2.2.2 == y4.1.2.2.2), ())
        else
        some (Bool.false, ())
      else
      some (Bool.false, ())
    else
    some (Bool.false, ())
  else
  some (Bool.false, ())
noncomputable def schemaValues_it : FnIt := ⟨4, [(false, .str), (false, .str)], [(false, .bool)], 11, fun n x => schemaValues n x.1 x.2.1⟩
theorem schemaValues_ok (n : Nat) : FnOK Go.Proofs.Tryz.prog hint shT schemaValues_it n :=
  FnOK.of (hk := fun β => (Known.mk [valueR_it, valueS_it, alive_it] []).hk β) (sh := shT) (fun m _ => KnownOK.hook (((KnownOK.nil.fn alive_ok).fn valueS_ok).fn valueR_ok) m) (fun x => by kernel_rfl)


end Go.Proofs.YtbkdijjliabfdaaGreatDoor

/- Law 19: tags and values. -/
namespace Go.Proofs.YtbkdijjliabfdaaGreatDoor
open Go Go.Iv Go.Gv
set_option linter.unusedSimpArgs false
set_option linter.unusedVariables false
set_option maxRecDepth 20000

/-! ### Words -/
def nul (s : List UInt8) : Bool := s == [] || (s == ([(126 : UInt8)] : List UInt8) || (s == ([(110 : UInt8), (117 : UInt8), (108 : UInt8), (108 : UInt8)] : List UInt8) || (s == ([(78 : UInt8), (117 : UInt8), (108 : UInt8), (108 : UInt8)] : List UInt8) || s == ([(78 : UInt8), (85 : UInt8), (76 : UInt8), (76 : UInt8)] : List UInt8))))
def tru (s : List UInt8) : Bool := s == ([(116 : UInt8), (114 : UInt8), (117 : UInt8), (101 : UInt8)] : List UInt8) || (s == ([(84 : UInt8), (114 : UInt8), (117 : UInt8), (101 : UInt8)] : List UInt8) || s == ([(84 : UInt8), (82 : UInt8), (85 : UInt8), (69 : UInt8)] : List UInt8))
def fls (s : List UInt8) : Bool := s == ([(102 : UInt8), (97 : UInt8), (108 : UInt8), (115 : UInt8), (101 : UInt8)] : List UInt8) || (s == ([(70 : UInt8), (97 : UInt8), (108 : UInt8), (115 : UInt8), (101 : UInt8)] : List UInt8) || s == ([(70 : UInt8), (65 : UInt8), (76 : UInt8), (83 : UInt8), (69 : UInt8)] : List UInt8))
theorem nullS_spec (n : Nat) (s : List UInt8) : nullS n s = some (nul s, ()) := by
  unfold nullS nul
  cases s == ([] : List UInt8) <;> cases s == ([(126 : UInt8)] : List UInt8) <;> cases s == ([(110 : UInt8), (117 : UInt8), (108 : UInt8), (108 : UInt8)] : List UInt8) <;> cases s == ([(78 : UInt8), (117 : UInt8), (108 : UInt8), (108 : UInt8)] : List UInt8) <;> rfl
theorem truthS_spec (n : Nat) (s : List UInt8) : truthS n s = some (tru s, tru s || fls s, ()) := by
  unfold truthS tru fls
  cases s == ([(116 : UInt8), (114 : UInt8), (117 : UInt8), (101 : UInt8)] : List UInt8) <;> cases s == ([(84 : UInt8), (114 : UInt8), (117 : UInt8), (101 : UInt8)] : List UInt8) <;> cases s == ([(84 : UInt8), (82 : UInt8), (85 : UInt8), (69 : UInt8)] : List UInt8) <;> cases s == ([(102 : UInt8), (97 : UInt8), (108 : UInt8), (115 : UInt8), (101 : UInt8)] : List UInt8) <;> cases s == ([(70 : UInt8), (97 : UInt8), (108 : UInt8), (115 : UInt8), (101 : UInt8)] : List UInt8) <;> cases s == ([(70 : UInt8), (65 : UInt8), (76 : UInt8), (83 : UInt8), (69 : UInt8)] : List UInt8) <;> rfl

theorem beq_comm8 (a b : List UInt8) : (a == b) = (b == a) := by rw [Bool.eq_iff_iff, beq_iff_eq, beq_iff_eq]; exact eq_comm
theorem among_spec (s : List UInt8) (l : List (List UInt8)) (hl : l.length ≤ 1000) : ∀ (m k n : Nat), k + m = l.length → m + 1 ≤ n →
    L40_2 n s (k : Int) l = some (bif (l.drop k).any (· == s) then .inr ((true, ()), (l, ())) else .inl ((), (l, ()))) := by
  intro m
  induction m with
  | zero =>
    intro k n h hn
    obtain ⟨n, rfl⟩ : ∃ k, n = k + 1 := ⟨n - 1, by omega⟩
    simp only [L40_2, len, ilt_f (show ((l.length : Nat) : Int) ≤ (k : Int) by omega), cond_false, List.drop_eq_nil_of_le (show l.length ≤ k by omega), List.any_nil]
  | succ m ih =>
    intro k n h hn
    obtain ⟨n, rfl⟩ : ∃ k, n = k + 1 := ⟨n - 1, by omega⟩
    have hi : k < l.length := by omega
    have w : IntKind.wrap .i64 ((k : Int) + 1) = ((k + 1 : Nat) : Int) := by rw [wrap_id] <;> omega
    rw [List.drop_eq_getElem_cons hi, List.any_cons]
    simp only [L40_2, len, ilt_t (show (k : Int) < ((l.length : Nat) : Int) by omega), ile_t (show (0 : Int) ≤ (k : Int) by omega), Bool.and_self, cond_true, Int.toNat_natCast, List.getElem?_eq_getElem hi, Option.bind_some, w]
    cases l[k] == s with
    | true => rfl
    | false => simp only [cond_false, Bool.false_or]; exact ih (k + 1) n (by omega) (by omega)
theorem among0 (s : List UInt8) (l : List (List UInt8)) (hl : l.length ≤ 1000) (n : Nat) (hn : l.length + 1 ≤ n) :
    L40_2 n s (0 : Int) l = some (bif l.any (· == s) then .inr ((true, ()), (l, ())) else .inl ((), (l, ()))) := by
  have := among_spec s l hl l.length 0 n (by omega) hn
  rw [List.drop_zero] at this; exact this
theorem nullR_spec (n : Nat) (s : List UInt8) (hn : 10 ≤ n) : nullR n s = some (nul s, ()) := by
  unfold nullR
  rw [among0 s _ (by simp) (n + 1) (by simp only [List.length_cons, List.length_nil]; omega), Option.bind_some]
  simp only [List.any_cons, List.any_nil, Bool.or_false]
  unfold nul
  rw [beq_comm8 s [], beq_comm8 s ([(126 : UInt8)] : List UInt8), beq_comm8 s ([(110 : UInt8), (117 : UInt8), (108 : UInt8), (108 : UInt8)] : List UInt8), beq_comm8 s ([(78 : UInt8), (117 : UInt8), (108 : UInt8), (108 : UInt8)] : List UInt8), beq_comm8 s ([(78 : UInt8), (85 : UInt8), (76 : UInt8), (76 : UInt8)] : List UInt8)]
  cases ([(110 : UInt8), (117 : UInt8), (108 : UInt8), (108 : UInt8)] : List UInt8) == s <;> cases ([(78 : UInt8), (117 : UInt8), (108 : UInt8), (108 : UInt8)] : List UInt8) == s <;> cases ([(78 : UInt8), (85 : UInt8), (76 : UInt8), (76 : UInt8)] : List UInt8) == s <;> cases ([(126 : UInt8)] : List UInt8) == s <;> cases ([] : List UInt8) == s <;> rfl
theorem yesR_spec (n : Nat) (s : List UInt8) (hn : 10 ≤ n) : yesR n s = some (tru s, ()) := by
  unfold yesR
  rw [among0 s _ (by simp) (n + 1) (by simp only [List.length_cons, List.length_nil]; omega), Option.bind_some]
  simp only [List.any_cons, List.any_nil, Bool.or_false]
  unfold tru
  rw [beq_comm8 s ([(116 : UInt8), (114 : UInt8), (117 : UInt8), (101 : UInt8)] : List UInt8), beq_comm8 s ([(84 : UInt8), (114 : UInt8), (117 : UInt8), (101 : UInt8)] : List UInt8), beq_comm8 s ([(84 : UInt8), (82 : UInt8), (85 : UInt8), (69 : UInt8)] : List UInt8)]
  cases ([(116 : UInt8), (114 : UInt8), (117 : UInt8), (101 : UInt8)] : List UInt8) == s <;> cases ([(84 : UInt8), (114 : UInt8), (117 : UInt8), (101 : UInt8)] : List UInt8) == s <;> cases ([(84 : UInt8), (82 : UInt8), (85 : UInt8), (69 : UInt8)] : List UInt8) == s <;> rfl
theorem noR_spec (n : Nat) (s : List UInt8) (hn : 10 ≤ n) : noR n s = some (fls s, ()) := by
  unfold noR
  rw [among0 s _ (by simp) (n + 1) (by simp only [List.length_cons, List.length_nil]; omega), Option.bind_some]
  simp only [List.any_cons, List.any_nil, Bool.or_false]
  unfold fls
  rw [beq_comm8 s ([(102 : UInt8), (97 : UInt8), (108 : UInt8), (115 : UInt8), (101 : UInt8)] : List UInt8), beq_comm8 s ([(70 : UInt8), (97 : UInt8), (108 : UInt8), (115 : UInt8), (101 : UInt8)] : List UInt8), beq_comm8 s ([(70 : UInt8), (65 : UInt8), (76 : UInt8), (83 : UInt8), (69 : UInt8)] : List UInt8)]
  cases ([(102 : UInt8), (97 : UInt8), (108 : UInt8), (115 : UInt8), (101 : UInt8)] : List UInt8) == s <;> cases ([(70 : UInt8), (97 : UInt8), (108 : UInt8), (115 : UInt8), (101 : UInt8)] : List UInt8) == s <;> cases ([(70 : UInt8), (65 : UInt8), (76 : UInt8), (83 : UInt8), (69 : UInt8)] : List UInt8) == s <;> rfl

/-! ### Core -/
def cname (s : List UInt8) : List UInt8 := bif nul s then sNull else bif tru s || fls s then sBool else bif (iv s).2.1 then sInt else bif (fl s).2.1 then sFloat else sStr
theorem coreS_spec (n : Nat) (s : List UInt8) (hs : s.length ≤ 6000) (hn : 20000 ≤ n) : coreS n s = some (cname s, ()) := by
  unfold coreS cname
  rw [truthS_spec, Option.bind_some, int_spec (n + 2) s (by omega), Option.bind_some, float_spec n s hs (by omega), Option.bind_some, nullS_spec, Option.bind_some]
  cases nul s <;> cases tru s || fls s <;> cases (iv s).2.1 <;> cases (fl s).2.1 <;> rfl
theorem coreR_spec (n : Nat) (s : List UInt8) (hs : s.length ≤ 6000) (hn : 20000 ≤ n) : coreR n s = some (yml ++ cname s, ()) := by
  unfold coreR cname
  rw [intR_spec n s (by omega), Option.bind_some, floatR_spec (n + 1) s hs (by omega), Option.bind_some, nullR_spec (n + 1) s (by omega), Option.bind_some, yesR_spec (n + 1) s (by omega), Option.bind_some, noR_spec (n + 1) s (by omega), Option.bind_some]
  cases nul s <;> cases tru s <;> cases fls s <;> cases (iv s).2.1 <;> cases (fl s).2.1 <;> rfl

/-! ### Tags -/
def deft (kind : Int) : List UInt8 := bif kind == 1 then yml ++ sStr else bif kind == 2 then yml ++ ([(115 : UInt8), (101 : UInt8), (113 : UInt8)] : List UInt8) else bif kind == 3 then yml ++ ([(109 : UInt8), (97 : UInt8), (112 : UInt8)] : List UInt8) else []
theorem defaultS_spec (n : Nat) (k : Int) : defaultS n k = some (deft k, ()) := by
  unfold defaultS deft
  cases k == 1 <;> cases k == 2 <;> cases k == 3 <;> rfl
theorem defaultR_spec (n : Nat) (k : Int) : defaultR n k = some (deft k, ()) := by
  unfold defaultR deft
  cases k == 1 <;> cases k == 2 <;> cases k == 3 <;> rfl
def res (kind : Int) (tag s : List UInt8) (pl : Bool) (which : Int) : List UInt8 :=
  bif !(tag == []) && !(tag == ([(33 : UInt8)] : List UInt8)) then tag else bif tag == ([(33 : UInt8)] : List UInt8) || (kind != 1 || !pl) then deft kind else bif which == 2 then yml ++ cname s else bif which == 1 then yml ++ jname s else deft kind
def word (l : List UInt8) : Prop := l = sNull ∨ l = sBool ∨ l = sInt ∨ l = sFloat ∨ l = sStr
theorem word_len {l : List UInt8} (h : word l) : l.length ≤ 10 := by rcases h with rfl | rfl | rfl | rfl | rfl <;> decide
theorem word_if {b : Bool} {x y : List UInt8} (h : word x) (k : word y) : word (bif b then x else y) := by cases b <;> assumption
theorem wNull : word sNull := .inl rfl
theorem wBool : word sBool := .inr (.inl rfl)
theorem wInt : word sInt := .inr (.inr (.inl rfl))
theorem wFloat : word sFloat := .inr (.inr (.inr (.inl rfl)))
theorem wStr : word sStr := .inr (.inr (.inr (.inr rfl)))
theorem jname_word (s : List UInt8) : word (jname s) := by
  have t : ∀ r, word (jtail r) := fun r => word_if wFloat wStr
  have f : ∀ r, word (jfrac r) := fun r => by
    cases r with
    | nil => exact t []
    | cons c r => exact word_if (word_if wStr (t _)) (t _)
  exact word_if wNull (word_if wBool (word_if wStr (word_if wInt (f _))))
theorem cname_word (s : List UInt8) : word (cname s) := word_if wNull (word_if wBool (word_if wInt (word_if wFloat wStr)))
theorem yml_len : yml.length = 18 := rfl
theorem resolveS_spec (n : Nat) (kind : Int) (tag s : List UInt8) (pl : Bool) (which : Int) (hs : s.length ≤ 6000) (hn : 20000 ≤ n) : resolveS n kind tag s pl which = some (res kind tag s pl which, ()) := by
  have hr : ∀ l, word l → room ((yml ++ l).length) = true := fun l hl => roomle (by rw [List.length_append, yml_len]; have := word_len hl; omega)
  have hr' : ∀ l, word l → room (yml.length + l.length) = true := fun l hl => by rw [← List.length_append]; exact hr l hl
  have h1 : resolveS n kind tag s pl which = (Option.bind (bif (!(tag == ([] : List UInt8))) then some (!(tag == ([(33 : UInt8)] : List UInt8))) else some Bool.false) fun b1 =>
    bif b1 then some (tag, ()) else
    Option.bind (bif (tag == ([(33 : UInt8)] : List UInt8)) then some Bool.true else bif (kind != (1 : Int)) then some Bool.true else some (!pl)) fun b3 =>
    bif b3 then Option.bind (defaultS (n + 8) kind) fun y4 => some (y4.1, ()) else
    bif (which == (2 : Int)) then Option.bind (coreS n s) fun y5 => bif room (yml.length + y5.1.length) then some (yml ++ y5.1, ()) else none else
    bif (which == (1 : Int)) then Option.bind (jsonS (n + 3) s) fun y6 => bif room (yml.length + y6.1.length) then some (yml ++ y6.1, ()) else none else
    Option.bind (defaultS (n + 8) kind) fun y7 => some (y7.1, ())) := rfl
  rw [h1, defaultS_spec, coreS_spec n s hs hn, jsonS_spec (n + 3) s (by omega) (by omega)]
  simp only [Option.bind_some, hr' _ (cname_word s), hr' _ (jname_word s), cond_true]
  unfold res
  cases tag == [] <;> cases tag == ([(33 : UInt8)] : List UInt8) <;> cases kind != 1 <;> cases pl <;> cases which == 2 <;> cases which == 1 <;> rfl
theorem resolveR_spec (n : Nat) (kind : Int) (tag s : List UInt8) (pl : Bool) (which : Int) (hs : s.length ≤ 6000) (hn : 20000 ≤ n) : resolveR n kind tag s pl which = some (res kind tag s pl which, ()) := by
  unfold resolveR
  rw [defaultR_spec, coreR_spec n s hs hn, jsonR_spec (n + 2) s (by omega) (by omega)]
  simp only [Option.bind_some]
  unfold res
  cases tag == [] <;> cases tag == ([(33 : UInt8)] : List UInt8) <;> cases kind != 1 <;> cases pl <;> cases which == 2 <;> cases which == 1 <;> rfl

theorem alive_spec (n : Nat) (hn : 20000 ≤ n) : alive n = some (true, ()) := by
  unfold alive
  rw [int_spec (n + 2) _ (by omega), Option.bind_some, float_spec n _ (by decide) (by omega), Option.bind_some]
  rfl

theorem big2 (s tag : List UInt8) : (bif !true then some true else bif ilt 300 (len s) then some true else some (ilt 300 (len tag))) = some (ilt 300 (len s) || ilt 300 (len tag)) := by
  cases ilt 300 (len s) <;> rfl
theorem resolves_all (n : Nat) (kind : Int) (tag s : List UInt8) (pl : Bool) (which : Int) (hn : 20000 ≤ n) : schemaResolves n kind tag s pl which = some (true, ()) := by
  unfold schemaResolves
  rw [alive_spec n hn, Option.bind_some]
  simp only []
  rw [big2, Option.bind_some]
  cases h : (ilt 300 (len s) || ilt 300 (len tag)) with
  | true => rfl
  | false =>
    have hs : s.length ≤ 300 := by
      rcases Nat.lt_or_ge 300 s.length with h1 | h1
      · rw [ilt_t (show (300 : Int) < len s by unfold len; omega)] at h; cases h
      · exact h1
    simp only [cond_false]
    rw [resolveS_spec (n + 1) kind tag s pl which (by omega) (by omega), Option.bind_some, resolveR_spec (n + 5) kind tag s pl which (by omega) (by omega), Option.bind_some, defaultS_spec, Option.bind_some, defaultR_spec, Option.bind_some]
    simp only [beq_self_eq_true, cond_true]
theorem resolves_spec (kind : Int) (tag s : List UInt8) (pl : Bool) (which : Int) : schemaResolves 30000 kind tag s pl which = some (true, ()) := resolves_all 30000 kind tag s pl which (by decide)

/-! ### Values -/
abbrev Vl := Int × (Bool × (Num × List UInt8))
def zN : Num := (false, ([], (0, 0)))
def noV : Vl × (Int × Unit) := ((0, (false, (zN, []))), 15, ())
def val (tag s : List UInt8) : Vl × (Int × Unit) :=
  bif tag == yml ++ sNull then bif nul s then ((1, (false, (zN, []))), 0, ()) else noV else
  bif tag == yml ++ sBool then bif tru s || fls s then ((2, (tru s, (zN, []))), 0, ()) else noV else
  bif tag == yml ++ sInt then bif (iv s).2.1 then ((3, (false, ((iv s).1, []))), 0, ()) else noV else
  bif tag == yml ++ sFloat then bif (fl s).2.1 then ((4, (false, ((fl s).1, []))), 0, ()) else bif (iv s).2.1 then ((4, (false, ((iv s).1, []))), 0, ()) else noV else
  ((5, (false, (zN, s))), 0, ())
theorem floatS_spec (n : Nat) (s : List UInt8) (hs : s.length ≤ 6000) (hn : 20000 ≤ n) : floatS n s = some (bif (fl s).2.1 then ((fl s).1, (true, ())) else ((iv s).1, ((iv s).2.1, ()))) := by
  unfold floatS
  rw [float_spec n s hs hn, Option.bind_some, int_spec (n + 2) s (by omega), Option.bind_some]
  cases (fl s).2.1 <;> rfl
theorem valueS_spec (n : Nat) (tag s : List UInt8) (hs : s.length ≤ 6000) (hn : 20000 ≤ n) : valueS n tag s = some (val tag s) := by
  unfold valueS
  rw [nullS_spec, truthS_spec, int_spec (n + 3) s (by omega), floatS_spec n s hs hn]
  simp only [Option.bind_some]
  unfold val
  rw [show yml ++ sNull = ([(116 : UInt8), (97 : UInt8), (103 : UInt8), (58 : UInt8), (121 : UInt8), (97 : UInt8), (109 : UInt8), (108 : UInt8), (46 : UInt8), (111 : UInt8), (114 : UInt8), (103 : UInt8), (44 : UInt8), (50 : UInt8), (48 : UInt8), (48 : UInt8), (50 : UInt8), (58 : UInt8), (110 : UInt8), (117 : UInt8), (108 : UInt8), (108 : UInt8)] : List UInt8) from rfl, show yml ++ sBool = ([(116 : UInt8), (97 : UInt8), (103 : UInt8), (58 : UInt8), (121 : UInt8), (97 : UInt8), (109 : UInt8), (108 : UInt8), (46 : UInt8), (111 : UInt8), (114 : UInt8), (103 : UInt8), (44 : UInt8), (50 : UInt8), (48 : UInt8), (48 : UInt8), (50 : UInt8), (58 : UInt8), (98 : UInt8), (111 : UInt8), (111 : UInt8), (108 : UInt8)] : List UInt8) from rfl, show yml ++ sInt = ([(116 : UInt8), (97 : UInt8), (103 : UInt8), (58 : UInt8), (121 : UInt8), (97 : UInt8), (109 : UInt8), (108 : UInt8), (46 : UInt8), (111 : UInt8), (114 : UInt8), (103 : UInt8), (44 : UInt8), (50 : UInt8), (48 : UInt8), (48 : UInt8), (50 : UInt8), (58 : UInt8), (105 : UInt8), (110 : UInt8), (116 : UInt8)] : List UInt8) from rfl, show yml ++ sFloat = ([(116 : UInt8), (97 : UInt8), (103 : UInt8), (58 : UInt8), (121 : UInt8), (97 : UInt8), (109 : UInt8), (108 : UInt8), (46 : UInt8), (111 : UInt8), (114 : UInt8), (103 : UInt8), (44 : UInt8), (50 : UInt8), (48 : UInt8), (48 : UInt8), (50 : UInt8), (58 : UInt8), (102 : UInt8), (108 : UInt8), (111 : UInt8), (97 : UInt8), (116 : UInt8)] : List UInt8) from rfl]
  generalize (tag == ([(116 : UInt8), (97 : UInt8), (103 : UInt8), (58 : UInt8), (121 : UInt8), (97 : UInt8), (109 : UInt8), (108 : UInt8), (46 : UInt8), (111 : UInt8), (114 : UInt8), (103 : UInt8), (44 : UInt8), (50 : UInt8), (48 : UInt8), (48 : UInt8), (50 : UInt8), (58 : UInt8), (110 : UInt8), (117 : UInt8), (108 : UInt8), (108 : UInt8)] : List UInt8)) = x1
  generalize (tag == ([(116 : UInt8), (97 : UInt8), (103 : UInt8), (58 : UInt8), (121 : UInt8), (97 : UInt8), (109 : UInt8), (108 : UInt8), (46 : UInt8), (111 : UInt8), (114 : UInt8), (103 : UInt8), (44 : UInt8), (50 : UInt8), (48 : UInt8), (48 : UInt8), (50 : UInt8), (58 : UInt8), (98 : UInt8), (111 : UInt8), (111 : UInt8), (108 : UInt8)] : List UInt8)) = x2
  generalize (tag == ([(116 : UInt8), (97 : UInt8), (103 : UInt8), (58 : UInt8), (121 : UInt8), (97 : UInt8), (109 : UInt8), (108 : UInt8), (46 : UInt8), (111 : UInt8), (114 : UInt8), (103 : UInt8), (44 : UInt8), (50 : UInt8), (48 : UInt8), (48 : UInt8), (50 : UInt8), (58 : UInt8), (105 : UInt8), (110 : UInt8), (116 : UInt8)] : List UInt8)) = x3
  generalize (tag == ([(116 : UInt8), (97 : UInt8), (103 : UInt8), (58 : UInt8), (121 : UInt8), (97 : UInt8), (109 : UInt8), (108 : UInt8), (46 : UInt8), (111 : UInt8), (114 : UInt8), (103 : UInt8), (44 : UInt8), (50 : UInt8), (48 : UInt8), (48 : UInt8), (50 : UInt8), (58 : UInt8), (102 : UInt8), (108 : UInt8), (111 : UInt8), (97 : UInt8), (116 : UInt8)] : List UInt8)) = x4
  generalize iv s = i
  generalize fl s = f
  obtain ⟨⟨i1, i2, i3, i4⟩, i5, i6⟩ := i
  obtain ⟨⟨f1, f2, f3, f4⟩, f5, f6⟩ := f
  cases x1 with
  | true => cases nul s <;> rfl
  | false =>
    cases x2 with
    | true => cases tru s <;> cases fls s <;> rfl
    | false =>
      cases x3 with
      | true => cases i5 <;> rfl
      | false =>
        cases x4 with
        | true => cases f5 <;> cases i5 <;> rfl
        | false => rfl
theorem valueR_spec (n : Nat) (tag s : List UInt8) (hs : s.length ≤ 6000) (hn : 20000 ≤ n) : valueR n tag s = some (val tag s) := by
  unfold valueR
  rw [intR_spec n s (by omega), Option.bind_some, floatR_spec (n + 1) s hs (by omega), Option.bind_some, nullR_spec (n + 1) s (by omega), yesR_spec (n + 1) s (by omega), noR_spec (n + 1) s (by omega)]
  simp only [Option.bind_some]
  unfold val
  rw [show yml ++ sNull = ([(116 : UInt8), (97 : UInt8), (103 : UInt8), (58 : UInt8), (121 : UInt8), (97 : UInt8), (109 : UInt8), (108 : UInt8), (46 : UInt8), (111 : UInt8), (114 : UInt8), (103 : UInt8), (44 : UInt8), (50 : UInt8), (48 : UInt8), (48 : UInt8), (50 : UInt8), (58 : UInt8), (110 : UInt8), (117 : UInt8), (108 : UInt8), (108 : UInt8)] : List UInt8) from rfl, show yml ++ sBool = ([(116 : UInt8), (97 : UInt8), (103 : UInt8), (58 : UInt8), (121 : UInt8), (97 : UInt8), (109 : UInt8), (108 : UInt8), (46 : UInt8), (111 : UInt8), (114 : UInt8), (103 : UInt8), (44 : UInt8), (50 : UInt8), (48 : UInt8), (48 : UInt8), (50 : UInt8), (58 : UInt8), (98 : UInt8), (111 : UInt8), (111 : UInt8), (108 : UInt8)] : List UInt8) from rfl, show yml ++ sInt = ([(116 : UInt8), (97 : UInt8), (103 : UInt8), (58 : UInt8), (121 : UInt8), (97 : UInt8), (109 : UInt8), (108 : UInt8), (46 : UInt8), (111 : UInt8), (114 : UInt8), (103 : UInt8), (44 : UInt8), (50 : UInt8), (48 : UInt8), (48 : UInt8), (50 : UInt8), (58 : UInt8), (105 : UInt8), (110 : UInt8), (116 : UInt8)] : List UInt8) from rfl, show yml ++ sFloat = ([(116 : UInt8), (97 : UInt8), (103 : UInt8), (58 : UInt8), (121 : UInt8), (97 : UInt8), (109 : UInt8), (108 : UInt8), (46 : UInt8), (111 : UInt8), (114 : UInt8), (103 : UInt8), (44 : UInt8), (50 : UInt8), (48 : UInt8), (48 : UInt8), (50 : UInt8), (58 : UInt8), (102 : UInt8), (108 : UInt8), (111 : UInt8), (97 : UInt8), (116 : UInt8)] : List UInt8) from rfl]
  generalize (tag == ([(116 : UInt8), (97 : UInt8), (103 : UInt8), (58 : UInt8), (121 : UInt8), (97 : UInt8), (109 : UInt8), (108 : UInt8), (46 : UInt8), (111 : UInt8), (114 : UInt8), (103 : UInt8), (44 : UInt8), (50 : UInt8), (48 : UInt8), (48 : UInt8), (50 : UInt8), (58 : UInt8), (110 : UInt8), (117 : UInt8), (108 : UInt8), (108 : UInt8)] : List UInt8)) = x1
  generalize (tag == ([(116 : UInt8), (97 : UInt8), (103 : UInt8), (58 : UInt8), (121 : UInt8), (97 : UInt8), (109 : UInt8), (108 : UInt8), (46 : UInt8), (111 : UInt8), (114 : UInt8), (103 : UInt8), (44 : UInt8), (50 : UInt8), (48 : UInt8), (48 : UInt8), (50 : UInt8), (58 : UInt8), (98 : UInt8), (111 : UInt8), (111 : UInt8), (108 : UInt8)] : List UInt8)) = x2
  generalize (tag == ([(116 : UInt8), (97 : UInt8), (103 : UInt8), (58 : UInt8), (121 : UInt8), (97 : UInt8), (109 : UInt8), (108 : UInt8), (46 : UInt8), (111 : UInt8), (114 : UInt8), (103 : UInt8), (44 : UInt8), (50 : UInt8), (48 : UInt8), (48 : UInt8), (50 : UInt8), (58 : UInt8), (105 : UInt8), (110 : UInt8), (116 : UInt8)] : List UInt8)) = x3
  generalize (tag == ([(116 : UInt8), (97 : UInt8), (103 : UInt8), (58 : UInt8), (121 : UInt8), (97 : UInt8), (109 : UInt8), (108 : UInt8), (46 : UInt8), (111 : UInt8), (114 : UInt8), (103 : UInt8), (44 : UInt8), (50 : UInt8), (48 : UInt8), (48 : UInt8), (50 : UInt8), (58 : UInt8), (102 : UInt8), (108 : UInt8), (111 : UInt8), (97 : UInt8), (116 : UInt8)] : List UInt8)) = x4
  generalize iv s = i
  generalize fl s = f
  obtain ⟨⟨i1, i2, i3, i4⟩, i5, i6⟩ := i
  obtain ⟨⟨f1, f2, f3, f4⟩, f5, f6⟩ := f
  cases x1 with
  | true => cases nul s <;> rfl
  | false =>
    cases x2 with
    | true => cases tru s <;> cases fls s <;> rfl
    | false =>
      cases x3 with
      | true => cases i5 <;> rfl
      | false =>
        cases x4 with
        | true => cases f5 <;> cases i5 <;> rfl
        | false => rfl
theorem values_all (n : Nat) (tag s : List UInt8) (hn : 20000 ≤ n) : schemaValues n tag s = some (true, ()) := by
  unfold schemaValues
  rw [alive_spec n hn, Option.bind_some]
  simp only []
  rw [big2, Option.bind_some]
  cases h : (ilt 300 (len s) || ilt 300 (len tag)) with
  | true => rfl
  | false =>
    have hs : s.length ≤ 300 := by
      rcases Nat.lt_or_ge 300 s.length with h1 | h1
      · rw [ilt_t (show (300 : Int) < len s by unfold len; omega)] at h; cases h
      · exact h1
    simp only [cond_false]
    rw [valueS_spec (n + 1) tag s (by omega) (by omega), Option.bind_some, valueR_spec (n + 6) tag s (by omega) (by omega), Option.bind_some]
    generalize val tag s = v
    simp only [beq_self_eq_true, Bool.and_self, Bool.and_true, cond_true]
theorem values_spec (tag s : List UInt8) : schemaValues 30000 tag s = some (true, ()) := values_all 30000 tag s (by decide)
end Go.Proofs.YtbkdijjliabfdaaGreatDoor

/- Functions whose answers are told: by the kit's contracts. -/
namespace Go.Proofs.YtbkdijjliabfdaaGreatDoor
open Go Go.Iv Go.Gv Go.Shelf Go.Proofs
def lays161_ren : Go.Shelf.Ren := ⟨fun | 161 => 53 | 231 => 66 | 227 => 67 | 233 => 68 | 235 => 69 | 228 => 78 | 197 => 79 | 151 => 80 | 260 => 88 | 152 => 89 | 137 => 95 | 119 => 96 | 224 => 97 | 225 => 98 | 217 => 102 | 266 => 104 | n => n, fun | 9 => 9 | 4 => 4 | 3 => 3 | 5 => 5 | 117 => 81 | 116 => 80 | 0 => 0 | 124 => 84 | 105 => 89 | 21 => 21 | 119 => 108 | 46 => 104 | 139 => 111 | 138 => 110 | n => n, fun | 3 => 2 | 4 => 3 | n => n⟩

theorem lays161 : Go.Proofs.Lays.n161 Tryz.prog lays161_ren := {
  mixed := by kernel_rfl
  f119 := Tryz.func96.trans (congrArg some (by kernel_rfl))
  f137 := Tryz.func95.trans (congrArg some (by kernel_rfl))
  f151 := Tryz.func80.trans (congrArg some (by kernel_rfl))
  f152 := Tryz.func89.trans (congrArg some (by kernel_rfl))
  f161 := Tryz.func53.trans (congrArg some (by kernel_rfl))
  f197 := Tryz.func79.trans (congrArg some (by kernel_rfl))
  f217 := Tryz.func102.trans (congrArg some (by kernel_rfl))
  f224 := Tryz.func97.trans (congrArg some (by kernel_rfl))
  f225 := Tryz.func98.trans (congrArg some (by kernel_rfl))
  f227 := Tryz.func67.trans (congrArg some (by kernel_rfl))
  f228 := Tryz.func78.trans (congrArg some (by kernel_rfl))
  f231 := Tryz.func66.trans (congrArg some (by kernel_rfl))
  f233 := Tryz.func68.trans (congrArg some (by kernel_rfl))
  f235 := Tryz.func69.trans (congrArg some (by kernel_rfl))
  f260 := Tryz.func88.trans (congrArg some (by kernel_rfl))
  f266 := Tryz.func104.trans (congrArg some (by kernel_rfl))
  t0 := Tryz.underlying0
  a0 := Tryz.isAgg0
  z0 := Tryz.sizeOf0
  v0 := Tryz.zeroValue0
  t3 := Tryz.underlying3
  a3 := Tryz.isAgg3
  z3 := Tryz.sizeOf3
  v3 := Tryz.zeroValue3
  t4 := Tryz.underlying4
  a4 := Tryz.isAgg4
  z4 := Tryz.sizeOf4
  v4 := Tryz.zeroValue4
  t5 := Tryz.underlying5
  a5 := Tryz.isAgg5
  z5 := Tryz.sizeOf5
  v5 := Tryz.zeroValue5
  t9 := Tryz.underlying9
  a9 := Tryz.isAgg9
  z9 := Tryz.sizeOf9
  v9 := Tryz.zeroValue9
  t21 := Tryz.underlying21
  a21 := Tryz.isAgg21
  z21 := Tryz.sizeOf21
  v21 := Tryz.zeroValue21
  t46 := Tryz.underlying104
  a46 := Tryz.isAgg104
  z46 := Tryz.sizeOf104
  v46 := Tryz.zeroValue104
  t105 := Tryz.underlying89
  a105 := Tryz.isAgg89
  z105 := Tryz.sizeOf89
  v105 := Tryz.zeroValue89
  t116 := Tryz.underlying80
  a116 := Tryz.isAgg80
  z116 := Tryz.sizeOf80
  t117 := Tryz.underlying81
  a117 := Tryz.isAgg81
  z117 := Tryz.sizeOf81
  v117 := Tryz.zeroValue81
  t119 := Tryz.underlying108
  a119 := Tryz.isAgg108
  z119 := Tryz.sizeOf108
  t124 := Tryz.underlying84
  a124 := Tryz.isAgg84
  z124 := Tryz.sizeOf84
  v124 := Tryz.zeroValue84
  t138 := Tryz.underlying110
  a138 := Tryz.isAgg110
  z138 := Tryz.sizeOf110
  v138 := Tryz.zeroValue110
  t139 := Tryz.underlying111
  a139 := Tryz.isAgg111
  z139 := Tryz.sizeOf111
  v139 := Tryz.zeroValue111
  g3 := by kernel_rfl
  g4 := by kernel_rfl

}

theorem sp53 : Spec1 Tryz.prog 2 53 0 := spec_trim ⟨_, _, Tryz.func53, rfl⟩ fun s cutset w h1 h2 => Go.Proofs.Any.strings_TrimLeft_laid lays161 (by kernel_rfl) s cutset w h1 h2
theorem specs_ok : SpecOK Tryz.prog (gspec hint) := gspec_ok (show SpecsOK Tryz.prog specL from ⟨sp53, trivial⟩)
end Go.Proofs.YtbkdijjliabfdaaGreatDoor
