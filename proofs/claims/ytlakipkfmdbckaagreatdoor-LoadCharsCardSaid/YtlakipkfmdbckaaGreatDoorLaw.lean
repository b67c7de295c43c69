/- The form of a text. -/
import Derived.Test.YtlakipkfmdbckaaGreatDoorFa
import Derived.Test.YtlakipkfmdbckaaGreatDoorGvPlain
import Derived.Test.YtlakipkfmdbckaaGreatDoorGvImp
import Derived.Test.YtlakipkfmdbckaaGreatDoorProg
import Derived.Test.YtlakipkfmdbckaaGreatDoorGs
import Derived.Test.YtlakipkfmdbckaaGreatDoorAl
import Derived.Test.YtlakipkfmdbckaaGreatDoorGvSpec
set_option linter.unusedSimpArgs false
set_option linter.unusedVariables false
namespace Go.Proofs.YtlakipkfmdbckaaGreatDoor
open Go Go.Iv Go.Gv
set_option maxRecDepth 10000
theorem tkd {α : Type} (l : List α) (k : Nat) : List.take (l.length - k) (List.drop k l) = List.drop k l := List.take_of_length_le (by simp)
theorem at_drop {α : Type} {l r : List α} {i : Nat} (h : l.drop i = r) (k : Nat) : l[i + k]? = r[k]? := by rw [← h, List.getElem?_drop]
theorem roomle {n : Nat} (h : n ≤ 1099511627776) : room n = true := room_ok h

def okc (c : Int) : Bool := decide (0 ≤ c ∧ c ≤ 1114111 ∧ (c < 55296 ∨ 57343 < c))
theorem right_spec (n : Nat) (c : Int) : right n c = some (okc c, ()) := by
  unfold right okc
  rw [ile_eq, ile_eq, ilt_eq, ilt_eq]
  by_cases h1 : (0 : Int) ≤ c <;> by_cases h2 : c ≤ 1114111 <;> by_cases h3 : c < 55296 <;> simp only [h1, h2, h3, Option.bind_some, decide_true, decide_false, cond_true, cond_false, true_and, false_and, true_or, false_or, Bool.decide_and, Option.bind_some]
theorem is_spec (n : Nat) (c : Int) : is n c = some (okc c, ()) := by
  unfold is okc
  rw [ile_eq, ile_eq, ilt_eq, ile_eq]
  by_cases h1 : (0 : Int) ≤ c <;> by_cases h2 : c ≤ 1114111 <;> by_cases h3 : c < 55296 <;> simp only [h1, h2, h3, Option.bind_some, decide_true, decide_false, cond_true, cond_false, true_and, false_and, true_or, false_or, Bool.decide_and, Option.bind_some]
  congr 3
theorem ub_ne (x : UInt8) (k : Nat) (h : k < 256) : (IntKind.wrap .i64 (ub x) != (k : Int)) = !(x == UInt8.ofNat k) := by
  rw [ub_wrap, Bool.eq_iff_iff]
  simp only [bne_iff_ne, ne_eq, Bool.not_eq_true', beq_eq_false_iff_ne]
  constructor
  · intro hh e; subst e
    apply hh
    unfold ub
    rw [UInt8.toNat_ofNat']
    omega
  · intro hh e
    apply hh
    apply UInt8.toNat_inj.1
    rw [UInt8.toNat_ofNat']
    unfold ub at e
    omega

/-- Does a list begin so? -/
def pre : List UInt8 → List UInt8 → Bool
  | [], _ => true
  | _ :: _, [] => false
  | a :: r, b :: s => (a == b) && pre r s

theorem pre_len : ∀ {l b : List UInt8}, b.length < l.length → pre l b = false
  | [], _, h => by simp at h
  | _ :: _, [], _ => rfl
  | _ :: r, _ :: s, h => by simp only [pre, pre_len (l := r) (b := s) (by simpa using h), Bool.and_false]

def t4 (a b c d : Bool) : Int × Int :=
  bif a && b && c && !d then (4, 0) else bif !a && b && c && d then (5, 0) else bif a && !b then (2, 0) else bif !a && b then (3, 0) else (1, 0)
def t2 (a b : Bool) : Int × Int := bif a && !b then (2, 0) else bif !a && b then (3, 0) else (1, 0)
def tl : List UInt8 → Int × Int
  | a :: b :: c :: d :: _ => t4 (a == 0) (b == 0) (c == 0) (d == 0)
  | [a, b] => t2 (a == 0) (b == 0)
  | [a, b, _] => t2 (a == 0) (b == 0)
  | _ => (1, 0)
def frm (l : List UInt8) : Int × Int :=
  bif pre [0, 0, 254, 255] l then (4, 4) else bif pre [255, 254, 0, 0] l then (5, 4) else bif pre [254, 255] l then (2, 2) else bif pre [255, 254] l then (3, 2) else bif pre [239, 187, 191] l then (1, 3) else tl l

def ft (p : Int) : Option UInt8 → Bool
  | none => p == -2
  | some x => bif p == -2 then true else bif (p == -1) && (x == 0) then false else bif ile 0 p then !(IntKind.wrap .i64 (ub x) != p) else true

theorem fstep (n : Nat) (b : List UInt8) (p0 p1 p2 p3 : Int) (i : Nat) (hi : i < 4) (p : Int) (hp : [p0, p1, p2, p3][i]? = some p) (c0 c1 c2 c3 c4 c5 : Int) :
    L48_2 (n + 1) b p0 p1 p2 p3 (i : Int) c0 c1 c2 c3 c4 c5 = bif ft p b[i]? then L48_2 n b p0 p1 p2 p3 ((i + 1 : Nat) : Int) c0 c1 c2 c3 c4 c5 else some (.inr ((false, ()), ((c0, (c1, (c2, (c3, (c4, (c5, ())))))), ()))) := by
  have w : IntKind.wrap .i64 ((i : Int) + 1) = ((i + 1 : Nat) : Int) := by rw [wrap_id] <;> omega
  have hc : i = 0 ∨ i = 1 ∨ i = 2 ∨ i = 3 := by omega
  have e0 : (Int.toNat (i : Int)) = i := rfl
  have z : Go.Iv.ile (0 : Int) (i : Int) = true := ile_t (by omega)
  simp only [L48_2, w, e0, z, cond_true, ilt_t (show (i : Int) < 4 by omega)]
  cases h : b[i]? with
  | none =>
    have : b.length ≤ i := List.getElem?_eq_none_iff.1 h
    simp only [len, ile_t (show (b.length : Int) ≤ i by omega), cond_true, ft]
    rcases hc with rfl | rfl | rfl | rfl <;> cases hp <;> rfl
  | some x =>
    have hlt : i < b.length := (List.getElem?_eq_some_iff.1 h).1
    simp only [len, ile_f (show (i : Int) < b.length by omega), cond_false, ft, Option.bind_some]
    generalize (IntKind.wrap .i64 (ub x)) = u
    rcases hc with rfl | rfl | rfl | rfl <;> cases hp
    · cases p0 == -2 <;> cases p0 == -1 <;> cases x == 0 <;> cases ile 0 p0 <;> cases u != p0 <;> rfl
    · cases p1 == -2 <;> cases p1 == -1 <;> cases x == 0 <;> cases ile 0 p1 <;> cases u != p1 <;> rfl
    · cases p2 == -2 <;> cases p2 == -1 <;> cases x == 0 <;> cases ile 0 p2 <;> cases u != p2 <;> rfl
    · cases p3 == -2 <;> cases p3 == -1 <;> cases x == 0 <;> cases ile 0 p3 <;> cases u != p3 <;> rfl

theorem fits_spec (n : Nat) (b : List UInt8) (a k p0 p1 p2 p3 : Int) (hn : 10 ≤ n) : fits n (a, k, p0, p1, p2, p3) b = some (ft p0 b[0]? && (ft p1 b[1]? && (ft p2 b[2]? && ft p3 b[3]?)), ()) := by
  obtain ⟨n, rfl⟩ : ∃ m, n = m + 10 := ⟨n - 10, by omega⟩
  unfold fits
  simp only []
  rw [show (0 : Int) = ((0 : Nat) : Int) from rfl, fstep (n + 10) b p0 p1 p2 p3 0 (by omega) p0 rfl]
  cases ft p0 b[0]? <;> simp only [cond_true, cond_false, Bool.false_and, Bool.true_and]
  · rfl
  rw [fstep (n + 9) b p0 p1 p2 p3 1 (by omega) p1 rfl]
  cases ft p1 b[1]? <;> simp only [cond_true, cond_false, Bool.false_and, Bool.true_and]
  · rfl
  rw [fstep (n + 8) b p0 p1 p2 p3 2 (by omega) p2 rfl]
  cases ft p2 b[2]? <;> simp only [cond_true, cond_false, Bool.false_and, Bool.true_and]
  · rfl
  rw [fstep (n + 7) b p0 p1 p2 p3 3 (by omega) p3 rfl]
  cases ft p3 b[3]? <;> simp only [cond_true, cond_false, Bool.false_and, Bool.true_and]
  · rfl
  · simp only [L48_2, ilt_f (show (4 : Int) ≤ ((3 + 1 : Nat) : Int) by decide), cond_false]
    rfl

theorem ft_lit (k : Nat) (h : k < 256) (x : UInt8) : ft (k : Int) (some x) = (x == UInt8.ofNat k) := by
  have e1 : ((k : Int) == -2) = false := by rw [beq_eq_false_iff_ne]; omega
  have e2 : ((k : Int) == -1) = false := by rw [beq_eq_false_iff_ne]; omega
  simp only [ft, e1, e2, Bool.false_and, cond_false, ile_t (show (0 : Int) ≤ k by omega), cond_true, ub_ne x k h, Bool.not_not]
theorem ft_nolit (k : Nat) : ft (k : Int) none = false := by
  have e1 : ((k : Int) == -2) = false := by rw [beq_eq_false_iff_ne]; omega
  exact e1
theorem ft_none (x : Option UInt8) : ft (-2) x = true := by
  cases x <;> rfl
theorem ft_some (x : UInt8) : ft (-1) (some x) = !(x == 0) := by
  show (bif true && (x == 0) then false else true) = _
  cases x == 0 <;> rfl
theorem ft_no : ft (-1) none = false := rfl

theorem rstep (n : Nat) (b : List UInt8) (rs : List (Int × Int × Int × Int × Int × Int)) (m : Int) (i : Nat) (hn : 10 ≤ n) (r : Int × Int × Int × Int × Int × Int) (hr : rs[i]? = some r) (hm : (i : Int) < m) (h9 : i < 100) :
    L26_2 (n + 1) b rs m (i : Int) = bif ft r.2.2.1 b[0]? && (ft r.2.2.2.1 b[1]? && (ft r.2.2.2.2.1 b[2]? && ft r.2.2.2.2.2 b[3]?)) then some (.inr ((r.1, (r.2.1, ())), ())) else L26_2 n b rs m ((i + 1 : Nat) : Int) := by
  have w : IntKind.wrap .i64 ((i : Int) + 1) = ((i + 1 : Nat) : Int) := by rw [wrap_id] <;> omega
  have hl : i < rs.length := (List.getElem?_eq_some_iff.1 hr).1
  have e0 : (Int.toNat (i : Int)) = i := rfl
  simp only [L26_2, w, e0, ile_t (show (0 : Int) ≤ i by omega), len, ilt_t hm, ilt_t (show (i : Int) < rs.length by omega), Bool.and_self, cond_true, hr, Option.bind_some]
  rw [fits_spec (n + 1) b _ _ _ _ _ _ (by omega)]
  rfl

theorem p4 (b : List UInt8) (x y z w : Nat) (hx : x < 256) (hy : y < 256) (hz : z < 256) (hw : w < 256) : (ft (x : Int) b[0]? && (ft (y : Int) b[1]? && (ft (z : Int) b[2]? && ft (w : Int) b[3]?))) = pre [UInt8.ofNat x, UInt8.ofNat y, UInt8.ofNat z, UInt8.ofNat w] b := by
  match b with
  | [] => simp only [List.getElem?_nil, ft_nolit, pre, Bool.false_and]
  | [a] => simp only [List.getElem?_nil, List.getElem?_cons_zero, List.getElem?_cons_succ, ft_nolit, ft_lit _ hx, pre, Bool.false_and, Bool.and_false]
  | [a, b] => simp only [List.getElem?_nil, List.getElem?_cons_zero, List.getElem?_cons_succ, ft_nolit, pre, Bool.false_and, Bool.and_false]
  | [a, b, c] => simp only [List.getElem?_nil, List.getElem?_cons_zero, List.getElem?_cons_succ, ft_nolit, pre, Bool.and_false]
  | a :: b :: c :: d :: r => 
    simp only [List.getElem?_cons_zero, List.getElem?_cons_succ, ft_lit _ hx, ft_lit _ hy, ft_lit _ hz, ft_lit _ hw, pre, Bool.and_true]
    rw [BEq.comm (a := a), BEq.comm (a := b), BEq.comm (a := c), BEq.comm (a := d)]
theorem p2 (b : List UInt8) (x y : Nat) (hx : x < 256) (hy : y < 256) : (ft (x : Int) b[0]? && (ft (y : Int) b[1]? && (ft (-2) b[2]? && ft (-2) b[3]?))) = pre [UInt8.ofNat x, UInt8.ofNat y] b := by
  match b with
  | [] => simp only [List.getElem?_nil, ft_nolit, pre, Bool.false_and]
  | [a] => simp only [List.getElem?_nil, List.getElem?_cons_zero, List.getElem?_cons_succ, ft_nolit, pre, Bool.false_and, Bool.and_false]
  | a :: b :: r => 
    simp only [List.getElem?_cons_zero, List.getElem?_cons_succ, ft_lit _ hx, ft_lit _ hy, ft_none, pre, Bool.and_true]
    rw [BEq.comm (a := a), BEq.comm (a := b)]
theorem p3 (b : List UInt8) (x y z : Nat) (hx : x < 256) (hy : y < 256) (hz : z < 256) : (ft (x : Int) b[0]? && (ft (y : Int) b[1]? && (ft (z : Int) b[2]? && ft (-2) b[3]?))) = pre [UInt8.ofNat x, UInt8.ofNat y, UInt8.ofNat z] b := by
  match b with
  | [] => simp only [List.getElem?_nil, ft_nolit, pre, Bool.false_and]
  | [a] => simp only [List.getElem?_nil, List.getElem?_cons_zero, List.getElem?_cons_succ, ft_nolit, pre, Bool.false_and, Bool.and_false]
  | [a, b] => simp only [List.getElem?_nil, List.getElem?_cons_zero, List.getElem?_cons_succ, ft_nolit, pre, Bool.false_and, Bool.and_false]
  | a :: b :: c :: r => 
    simp only [List.getElem?_cons_zero, List.getElem?_cons_succ, ft_lit _ hx, ft_lit _ hy, ft_lit _ hz, ft_none, pre, Bool.and_true]
    rw [BEq.comm (a := a), BEq.comm (a := b), BEq.comm (a := c)]

def rws : List (Int × Int × Int × Int × Int × Int) := [(4, 4, 0, 0, 254, 255), (5, 4, 255, 254, 0, 0), (2, 2, 254, 255, -2, -2), (3, 2, 255, 254, -2, -2), (1, 3, 239, 187, 191, -2), (4, 0, 0, 0, 0, -1), (5, 0, -1, 0, 0, 0), (2, 0, 0, -1, -2, -2), (3, 0, -1, 0, -2, -2)]

theorem tl_eq (b : List UInt8) : tl b = bif (ft 0 b[0]? && (ft 0 b[1]? && (ft 0 b[2]? && ft (-1) b[3]?))) then (4, 0) else bif (ft (-1) b[0]? && (ft 0 b[1]? && (ft 0 b[2]? && ft 0 b[3]?))) then (5, 0) else bif (ft 0 b[0]? && (ft (-1) b[1]? && (ft (-2) b[2]? && ft (-2) b[3]?))) then (2, 0) else
    bif (ft (-1) b[0]? && (ft 0 b[1]? && (ft (-2) b[2]? && ft (-2) b[3]?))) then (3, 0) else (1, 0) := by
  have f0 : ∀ x : UInt8, ft 0 (some x) = (x == 0) := fun x => ft_lit 0 (by decide) x
  have n0 : ft 0 none = false := rfl
  match b with
  | [] => rfl
  | [a] =>
    simp only [List.getElem?_nil, List.getElem?_cons_zero, List.getElem?_cons_succ, f0, n0, ft_none, ft_some, ft_no, tl]
    cases a == 0 <;> rfl
  | [a, b] =>
    simp only [List.getElem?_nil, List.getElem?_cons_zero, List.getElem?_cons_succ, f0, n0, ft_none, ft_some, ft_no, tl]
    cases a == 0 <;> cases b == 0 <;> rfl
  | [a, b, c] =>
    simp only [List.getElem?_nil, List.getElem?_cons_zero, List.getElem?_cons_succ, f0, n0, ft_none, ft_some, ft_no, tl]
    cases a == 0 <;> cases b == 0 <;> cases c == 0 <;> rfl
  | a :: b :: c :: d :: r =>
    simp only [List.getElem?_cons_zero, List.getElem?_cons_succ, f0, ft_none, ft_some, tl]
    cases a == 0 <;> cases b == 0 <;> cases c == 0 <;> cases d == 0 <;> rfl

theorem form_spec (n : Nat) (b : List UInt8) (hn : 30 ≤ n) : form n b = some ((frm b).1, (frm b).2, ()) := by
  obtain ⟨n, rfl⟩ : ∃ m, n = m + 30 := ⟨n - 30, by omega⟩
  have c1 : (ft 0 b[0]? && (ft 0 b[1]? && (ft 254 b[2]? && ft 255 b[3]?))) = pre [0, 0, 254, 255] b := p4 b 0 0 254 255 (by decide) (by decide) (by decide) (by decide)
  have c2 : (ft 255 b[0]? && (ft 254 b[1]? && (ft 0 b[2]? && ft 0 b[3]?))) = pre [255, 254, 0, 0] b := p4 b 255 254 0 0 (by decide) (by decide) (by decide) (by decide)
  have c3 : (ft 254 b[0]? && (ft 255 b[1]? && (ft (-2) b[2]? && ft (-2) b[3]?))) = pre [254, 255] b := p2 b 254 255 (by decide) (by decide)
  have c4 : (ft 255 b[0]? && (ft 254 b[1]? && (ft (-2) b[2]? && ft (-2) b[3]?))) = pre [255, 254] b := p2 b 255 254 (by decide) (by decide)
  have c5 : (ft 239 b[0]? && (ft 187 b[1]? && (ft 191 b[2]? && ft (-2) b[3]?))) = pre [239, 187, 191] b := p3 b 239 187 191 (by decide) (by decide) (by decide)
  unfold form frm
  rw [tl_eq b]
  show (L26_2 (n + 30) b rws 9 ((0 : Nat) : Int)).bind _ = _
  rw [rstep (n + 29) b rws 9 0 (by omega) _ rfl (by decide) (by decide)]
  simp only [c1]
  cases pre [0, 0, 254, 255] b <;> simp only [cond_true, cond_false, Option.bind_some]
  rw [rstep (n + 28) b rws 9 1 (by omega) _ rfl (by decide) (by decide)]
  simp only [c2]
  cases pre [255, 254, 0, 0] b <;> simp only [cond_true, cond_false, Option.bind_some]
  rw [rstep (n + 27) b rws 9 2 (by omega) _ rfl (by decide) (by decide)]
  simp only [c3]
  cases pre [254, 255] b <;> simp only [cond_true, cond_false, Option.bind_some]
  rw [rstep (n + 26) b rws 9 3 (by omega) _ rfl (by decide) (by decide)]
  simp only [c4]
  cases pre [255, 254] b <;> simp only [cond_true, cond_false, Option.bind_some]
  rw [rstep (n + 25) b rws 9 4 (by omega) _ rfl (by decide) (by decide)]
  simp only [c5]
  cases pre [239, 187, 191] b <;> simp only [cond_true, cond_false, Option.bind_some]
  rw [rstep (n + 24) b rws 9 5 (by omega) _ rfl (by decide) (by decide)]
  simp only []
  cases (ft 0 b[0]? && (ft 0 b[1]? && (ft 0 b[2]? && ft (-1) b[3]?))) <;> simp only [cond_true, cond_false, Option.bind_some]
  rw [rstep (n + 23) b rws 9 6 (by omega) _ rfl (by decide) (by decide)]
  simp only []
  cases (ft (-1) b[0]? && (ft 0 b[1]? && (ft 0 b[2]? && ft 0 b[3]?))) <;> simp only [cond_true, cond_false, Option.bind_some]
  rw [rstep (n + 22) b rws 9 7 (by omega) _ rfl (by decide) (by decide)]
  simp only []
  cases (ft 0 b[0]? && (ft (-1) b[1]? && (ft (-2) b[2]? && ft (-2) b[3]?))) <;> simp only [cond_true, cond_false, Option.bind_some]
  rw [rstep (n + 21) b rws 9 8 (by omega) _ rfl (by decide) (by decide)]
  simp only []
  cases (ft (-1) b[0]? && (ft 0 b[1]? && (ft (-2) b[2]? && ft (-2) b[3]?))) <;> simp only [cond_true, cond_false, Option.bind_some]
  simp only [L26_2, ilt_f (show (9 : Int) ≤ ((8 + 1 : Nat) : Int) by decide), cond_false, Option.bind_some]
end Go.Proofs.YtlakipkfmdbckaaGreatDoor

/- Decoding. -/
namespace Go.Proofs.YtlakipkfmdbckaaGreatDoor
open Go Go.Iv Go.Gv
set_option maxRecDepth 10000
def cont (x : UInt8) : Prop := 128 ≤ ub x ∧ ub x ≤ 191
instance (x : UInt8) : Decidable (cont x) := inferInstanceAs (Decidable (_ ∧ _))
def v2 (a b : UInt8) : Int := (ub a % 32) * 64 + ub b % 64
def v3 (a b c : UInt8) : Int := ((ub a % 16) * 64 + ub b % 64) * 64 + ub c % 64
def v4 (a b c d : UInt8) : Int := (((ub a % 8) * 64 + ub b % 64) * 64 + ub c % 64) * 64 + ub d % 64

/-- The code point that begins here, and how many bytes it has. -/
def pt : List UInt8 → Option (Int × Nat)
  | [] => none
  | a :: r =>
    if ub a < 128 then some (ub a, 1)
    else if ub a < 194 then none
    else if ub a < 224 then match r with
      | b :: _ => if cont b then some (v2 a b, 2) else none
      | _ => none
    else if ub a < 240 then match r with
      | b :: c :: _ => if cont b ∧ cont c ∧ 2048 ≤ v3 a b c ∧ okc (v3 a b c) = true then some (v3 a b c, 3) else none
      | _ => none
    else if ub a < 245 then match r with
      | b :: c :: d :: _ => if cont b ∧ cont c ∧ cont d ∧ 65536 ≤ v4 a b c d ∧ okc (v4 a b c d) = true then some (v4 a b c d, 4) else none
      | _ => none
    else none

theorem pt_ok {l : List UInt8} {c : Int} {k : Nat} (h : pt l = some (c, k)) : okc c = true ∧ 1 ≤ k ∧ k ≤ l.length ∧ 0 ≤ c ∧ c ≤ 1114111 := by
  have fin : ∀ {c : Int} {k : Nat}, okc c = true → 1 ≤ k → k ≤ l.length → okc c = true ∧ 1 ≤ k ∧ k ≤ l.length ∧ 0 ≤ c ∧ c ≤ 1114111 := fun h1 h2 h3 => by
    have := of_decide_eq_true h1; exact ⟨h1, h2, h3, by omega, by omega⟩
  unfold pt at h
  match l, h with
  | a :: r, h =>
    have ha := ub_lt a
    dsimp only at h
    split at h
    · cases h; exact fin (decide_eq_true (by omega)) (by omega) (by simp)
    split at h
    · cases h
    split at h
    · split at h
      · split at h
        · cases h
          refine fin (decide_eq_true ?_) (by omega) (by simp)
          unfold v2; omega
        · cases h
      · cases h
    split at h
    · split at h
      · split at h
        · rename_i hh; cases h; exact fin hh.2.2.2 (by omega) (by simp)
        · cases h
      · cases h
    split at h
    · split at h
      · split at h
        · rename_i hh; cases h; exact fin hh.2.2.2.2 (by omega) (by simp)
        · cases h
      · cases h
    · cases h

theorem and63 {x : Int} (h1 : 0 ≤ x) (h2 : x < 1000) : andI .i64 x 63 = x % 64 := andI_i64 6 (by decide) x h1 (by omega)
theorem and31 {x : Int} (h1 : 0 ≤ x) (h2 : x < 1000) : andI .i64 x 31 = x % 32 := andI_i64 5 (by decide) x h1 (by omega)
theorem and15 {x : Int} (h1 : 0 ≤ x) (h2 : x < 1000) : andI .i64 x 15 = x % 16 := andI_i64 4 (by decide) x h1 (by omega)
theorem and7 {x : Int} (h1 : 0 ≤ x) (h2 : x < 1000) : andI .i64 x 7 = x % 8 := andI_i64 3 (by decide) x h1 (by omega)

/-- What the table tells of a first byte. -/
def cls (a : UInt8) : UInt8 :=
  if a.toNat < 128 then 240 else if a.toNat < 194 then 241 else if a.toNat < 224 then 2 else if a.toNat = 224 then 19 else if a.toNat < 237 then 3 else if a.toNat = 237 then 35 else if a.toNat < 240 then 3 else if a.toNat = 240 then 52 else if a.toNat < 244 then 4 else if a.toNat = 244 then 68 else 241
theorem tab_all : ∀ i : Fin 256, tab0[i.val]? = some (cls (UInt8.ofNat i.val)) := by decide +kernel
theorem tab_cls (a : UInt8) : tab0[(Int.toNat (ub a))]? = some (cls a) := by
  have := tab_all ⟨a.toNat, a.toNat_lt⟩
  show tab0[a.toNat]? = _
  simpa using this

theorem ub_and (x : UInt8) (k : Nat) (hk : k ≤ 7) : ub (x &&& UInt8.ofNat (2 ^ k - 1)) = ub x % 2 ^ k := by
  have h1 : (UInt8.ofNat (2 ^ k - 1)).toNat = 2 ^ k - 1 := by
    rw [UInt8.toNat_ofNat']
    have := Nat.pow_le_pow_right (show 0 < 2 by decide) hk
    omega
  unfold ub
  rw [UInt8.toNat_and, h1, Nat.and_two_pow_sub_one_eq_mod]
  rw [Int.natCast_emod, Int.natCast_pow]; rfl

theorem ofI32 (x : Int) : andNotI .i32 x (-1) = 0 := by
  unfold andNotI
  have : ~~~(BitVec.ofInt (IntKind.bits .i32) (-1)) = 0#_ := by decide
  rw [this, BitVec.and_zero]; rfl

theorem i32or6 {a b : Int} (h1 : 0 ≤ a) (h2 : a < 33554432) (h3 : 0 ≤ b) (h4 : b < 64) : orI .i32 (a * 64) b = a * 64 + b := orI_i32 6 _ _ (by omega) (by omega) (by omega) h3 (by omega) (by omega)
theorem i32or12 {a b : Int} (h1 : 0 ≤ a) (h2 : a < 524288) (h3 : 0 ≤ b) (h4 : b < 4096) : orI .i32 (a * 4096) b = a * 4096 + b := orI_i32 12 _ _ (by omega) (by omega) (by omega) h3 (by omega) (by omega)
theorem i32or18 {a b : Int} (h1 : 0 ≤ a) (h2 : a < 8192) (h3 : 0 ≤ b) (h4 : b < 262144) : orI .i32 (a * 262144) b = a * 262144 + b := orI_i32 18 _ _ (by omega) (by omega) (by omega) h3 (by omega) (by omega)
theorem i32shl6 {a : Int} (h1 : 0 ≤ a) (h2 : a < 256) : shlI .i32 a 6 = a * 64 := shlI_i32 a 6 (by decide) (by omega) (by omega)
theorem i32shl12 {a : Int} (h1 : 0 ≤ a) (h2 : a < 256) : shlI .i32 a 12 = a * 4096 := shlI_i32 a 12 (by decide) (by omega) (by omega)
theorem i32shl18 {a : Int} (h1 : 0 ≤ a) (h2 : a < 256) : shlI .i32 a 18 = a * 262144 := shlI_i32 a 18 (by decide) (by omega) (by omega)

theorem val2 (a b : UInt8) : orI .i32 (shlI .i32 (IntKind.wrap .i32 (ub (a &&& 31))) 6) (IntKind.wrap .i32 (ub (b &&& 63))) = v2 a b := by
  have e1 : ub (a &&& 31) = ub a % 32 := ub_and a 5 (by decide)
  have e2 : ub (b &&& 63) = ub b % 64 := ub_and b 6 (by decide)
  have := ub_lt a
  have := ub_lt b
  rw [ub_wrap32, ub_wrap32, e1, e2, i32shl6 (by omega) (by omega), i32or6 (by omega) (by omega) (by omega) (by omega)]
  rfl
theorem val3 (a b c : UInt8) : orI .i32 (orI .i32 (shlI .i32 (IntKind.wrap .i32 (ub (a &&& 15))) 12) (shlI .i32 (IntKind.wrap .i32 (ub (b &&& 63))) 6)) (IntKind.wrap .i32 (ub (c &&& 63))) = v3 a b c := by
  have e1 : ub (a &&& 15) = ub a % 16 := ub_and a 4 (by decide)
  have e2 : ub (b &&& 63) = ub b % 64 := ub_and b 6 (by decide)
  have e3 : ub (c &&& 63) = ub c % 64 := ub_and c 6 (by decide)
  have := ub_lt a
  have := ub_lt b
  have := ub_lt c
  rw [ub_wrap32, ub_wrap32, ub_wrap32, e1, e2, e3, i32shl12 (by omega) (by omega), i32shl6 (by omega) (by omega), i32or12 (by omega) (by omega) (by omega) (by omega)]
  rw [show ub a % 16 * 4096 + ub b % 64 * 64 = (ub a % 16 * 64 + ub b % 64) * 64 by omega, i32or6 (by omega) (by omega) (by omega) (by omega)]
  rfl
theorem val4 (a b c d : UInt8) : orI .i32 (orI .i32 (orI .i32 (shlI .i32 (IntKind.wrap .i32 (ub (a &&& 7))) 18) (shlI .i32 (IntKind.wrap .i32 (ub (b &&& 63))) 12)) (shlI .i32 (IntKind.wrap .i32 (ub (c &&& 63))) 6)) (IntKind.wrap .i32 (ub (d &&& 63))) = v4 a b c d := by
  have e1 : ub (a &&& 7) = ub a % 8 := ub_and a 3 (by decide)
  have e2 : ub (b &&& 63) = ub b % 64 := ub_and b 6 (by decide)
  have e3 : ub (c &&& 63) = ub c % 64 := ub_and c 6 (by decide)
  have e4 : ub (d &&& 63) = ub d % 64 := ub_and d 6 (by decide)
  have := ub_lt a
  have := ub_lt b
  have := ub_lt c
  have := ub_lt d
  rw [ub_wrap32, ub_wrap32, ub_wrap32, ub_wrap32, e1, e2, e3, e4, i32shl18 (by omega) (by omega), i32shl12 (by omega) (by omega), i32shl6 (by omega) (by omega), i32or18 (by omega) (by omega) (by omega) (by omega)]
  rw [show ub a % 8 * 262144 + ub b % 64 * 4096 = (ub a % 8 * 64 + ub b % 64) * 4096 by omega, i32or12 (by omega) (by omega) (by omega) (by omega)]
  rw [show (ub a % 8 * 64 + ub b % 64) * 4096 + ub c % 64 * 64 = ((ub a % 8 * 64 + ub b % 64) * 64 + ub c % 64) * 64 by omega, i32or6 (by omega) (by omega) (by omega) (by omega)]
  rfl

/-- What the library says. -/
def dp : Option (Int × Nat) → Int × (Int × Unit)
  | some (c, k) => (c, ((k : Int), ()))
  | none => (65533, (1, ()))

theorem blt_ub {x y : UInt8} : Nat.blt x.toNat y.toNat = decide (ub x < ub y) := by
  rw [Bool.eq_iff_iff, Nat.blt_eq, decide_eq_true_eq]; unfold ub; omega

/-- Of two, three, four bytes; the second one's bounds. -/
theorem two (a x1 : UInt8) (r : List UInt8) (n : Nat) (hx : cls a = x1) (h1 : Nat.ble (UInt8.toNat 240) x1.toNat = false) (l h : UInt8) (ht : tab1[(Int.toNat (ub (shrB x1 4)))]? = some (l, h)) (h16 : ub (shrB x1 4) < 16) (k : Int) (hk : IntKind.wrap .i64 (ub (x1 &&& 7)) = k) (hr : r.length < 10000000) :
    drs n (a :: r) = bif ilt ((r.length + 1 : Nat) : Int) k then some (65533, (1, ())) else (r[0]?).bind fun b => if ub l ≤ ub b ∧ ub b ≤ ub h then (bif ile k 2 then some (v2 a b, (2, ())) else (r[1]?).bind fun c => if cont c then (bif ile k 3 then some (v3 a b c, (3, ())) else (r[2]?).bind fun d => if cont d then some (v4 a b c d, (4, ())) else some (65533, (1, ()))) else some (65533, (1, ()))) else some (65533, (1, ())) := by
  have ha := ub_lt a
  unfold drs
  simp only [len, List.length_cons, ilt_f (show (1 : Int) ≤ ((r.length + 1 : Nat) : Int) by omega), cond_false, List.getElem?_cons_zero, List.getElem?_cons_succ, Option.bind_some, ilt_t (show ub a < 256 by omega), cond_true, tab_cls, hx, h1, ilt_t h16, ht, hk]
  cases ilt ((r.length + 1 : Nat) : Int) k with
  | true => rfl
  | false =>
    simp only [cond_false, Option.bind_some]
    cases hb : r[0]? with
    | none => rfl
    | some b =>
      simp only [Option.bind_some, blt_ub]
      by_cases q1 : ub b < ub l
      · rw [decide_eq_true q1, if_neg (fun hh => by omega)]; rfl
      rw [decide_eq_false q1]
      simp only [cond_false, Option.bind_some]
      by_cases q2 : ub h < ub b
      · rw [decide_eq_true q2, if_neg (fun hh => by omega)]; rfl
      rw [decide_eq_false q2, if_pos ⟨by omega, by omega⟩, val2]
      simp only [cond_false, Option.bind_some]
      cases ile k 2 with
      | true => rfl
      | false =>
        simp only [cond_false, Option.bind_some]
        cases hc : r[1]? with
        | none => rfl
        | some c =>
          simp only [Option.bind_some]
          have u128 : ub 128 = 128 := rfl
          have u191 : ub 191 = 191 := rfl
          rw [u128, u191]
          by_cases q3 : ub c < 128
          · rw [decide_eq_true q3, if_neg (fun hh => by have := hh.1; omega)]; rfl
          rw [decide_eq_false q3]
          simp only [cond_false, Option.bind_some]
          by_cases q4 : 191 < ub c
          · rw [decide_eq_true q4, if_neg (fun hh => by have := hh.2; omega)]; rfl
          rw [decide_eq_false q4, if_pos ⟨by omega, by omega⟩, val3]
          simp only [cond_false, Option.bind_some]
          cases ile k 3 with
          | true => rfl
          | false =>
            simp only [cond_false, Option.bind_some]
            cases hd : r[2]? with
            | none => rfl
            | some d =>
              simp only [Option.bind_some]
              by_cases q5 : ub d < 128
              · rw [decide_eq_true q5, if_neg (fun hh => by have := hh.1; omega)]; rfl
              rw [decide_eq_false q5]
              simp only [cond_false, Option.bind_some]
              by_cases q6 : 191 < ub d
              · rw [decide_eq_true q6, if_neg (fun hh => by have := hh.2; omega)]; rfl
              rw [decide_eq_false q6, if_pos ⟨by omega, by omega⟩, val4]
              simp only [cond_false, Option.bind_some]

theorem bad (a : UInt8) (r : List UInt8) (n : Nat) (hx : cls a = 241) (hr : r.length < 10000000) : drs n (a :: r) = some (65533, (1, ())) := by
  have ha := ub_lt a
  unfold drs
  simp only [len, List.length_cons, ilt_f (show (1 : Int) ≤ ((r.length + 1 : Nat) : Int) by omega), cond_false, List.getElem?_cons_zero, Option.bind_some, ilt_t (show ub a < 256 by omega), cond_true, tab_cls, hx, show Nat.ble (UInt8.toNat 240) (UInt8.toNat 241) = true from rfl]
  have m : shrI .i32 (shlI .i32 (IntKind.wrap .i32 (ub 241)) 31) 31 = -1 := by decide
  rw [m, ofI32]
  rfl

theorem drs_spec (n : Nat) (a : UInt8) (r : List UInt8) (h1 : 128 ≤ ub a) (hr : r.length < 10000000) : drs n (a :: r) = some (dp (pt (a :: r))) := by
  have ha := ub_lt a
  have hp := pt.eq_def (a :: r)
  dsimp only at hp
  rw [hp, if_neg (show ¬ ub a < 128 by omega)]
  have an : ub a = (a.toNat : Int) := rfl
  by_cases h2 : ub a < 194
  · rw [if_pos h2]
    refine bad a r n ?_ hr
    unfold cls; rw [if_neg (by omega), if_pos (by omega)]
  rw [if_neg h2]
  by_cases h3 : ub a < 224
  · rw [if_pos h3]
    have hc : cls a = 2 := by unfold cls; rw [if_neg (by omega), if_neg (by omega), if_pos (by omega)]
    rw [two a 2 r n hc rfl 128 191 rfl (by decide) 2 (by decide) hr]
    match r, hr with
    | [], _ => rfl
    | b :: s, hr =>
      rw [ilt_f (show (2 : Int) ≤ (((b :: s).length + 1 : Nat) : Int) by simp only [List.length_cons]; omega)]
      simp only [cond_false, List.getElem?_cons_zero, Option.bind_some]
      by_cases q : cont b
      · rw [if_pos q, if_pos (show ub 128 ≤ ub b ∧ ub b ≤ ub 191 from q)]; rfl
      · rw [if_neg q, if_neg (show ¬ (ub 128 ≤ ub b ∧ ub b ≤ ub 191) from q)]; rfl
  rw [if_neg h3]
  by_cases h4 : ub a < 240
  · rw [if_pos h4]
    have key : ∀ (x1 l h : UInt8), cls a = x1 → Nat.ble (UInt8.toNat 240) x1.toNat = false → tab1[(Int.toNat (ub (shrB x1 4)))]? = some (l, h) → ub (shrB x1 4) < 16 → IntKind.wrap .i64 (ub (x1 &&& 7)) = 3 →
        (∀ b c : UInt8, cont c → ((ub l ≤ ub b ∧ ub b ≤ ub h) ↔ (cont b ∧ 2048 ≤ v3 a b c ∧ okc (v3 a b c) = true))) → drs n (a :: r) = some (dp (match (generalizing := false) r with
          | b :: c :: _ => if cont b ∧ cont c ∧ 2048 ≤ v3 a b c ∧ okc (v3 a b c) = true then some (v3 a b c, 3) else none
          | _ => none)) := by
      intro x1 l h e1 e2 e3 e4 e5 e6
      rw [two a x1 r n e1 e2 l h e3 e4 3 e5 hr]
      match r, hr with
      | [], _ => rfl
      | [b], _ => rfl
      | b :: c :: s, hr =>
        rw [ilt_f (show (3 : Int) ≤ (((b :: c :: s).length + 1 : Nat) : Int) by simp only [List.length_cons]; omega)]
        simp only [cond_false, List.getElem?_cons_zero, List.getElem?_cons_succ, Option.bind_some]
        by_cases hc : cont c
        · have e := e6 b c hc
          by_cases q : ub l ≤ ub b ∧ ub b ≤ ub h
          · have := e.1 q
            rw [if_pos q, if_pos hc, if_pos ⟨this.1, hc, this.2⟩]; rfl
          · rw [if_neg q, if_neg (fun hh => q (e.2 ⟨hh.1, hh.2.2⟩))]; rfl
        · rw [if_neg hc, if_neg (show ¬ (cont b ∧ cont c ∧ 2048 ≤ v3 a b c ∧ okc (v3 a b c) = true) from fun hh => hc hh.2.1)]
          by_cases q : ub l ≤ ub b ∧ ub b ≤ ub h
          · rw [if_pos q]; rfl
          · rw [if_neg q]; rfl
    have u1 : ub 128 = 128 := rfl
    have u2 : ub 191 = 191 := rfl
    have u3 : ub 160 = 160 := rfl
    have u4 : ub 159 = 159 := rfl
    have ok : ∀ b c : UInt8, okc (v3 a b c) = true ↔ (0 ≤ v3 a b c ∧ v3 a b c ≤ 1114111 ∧ (v3 a b c < 55296 ∨ 57343 < v3 a b c)) := fun b c => decide_eq_true_iff
    by_cases h5 : ub a = 224
    · refine key 19 160 191 (by unfold cls; rw [if_neg (by omega), if_neg (by omega), if_neg (by omega), if_pos (by omega)]) rfl rfl (by decide) (by decide) fun b c hc => ?_
      have := ub_lt b
      have := ub_lt c
      have := hc.1
      have := hc.2
      rw [ok]; unfold v3 cont; omega
    by_cases h6 : ub a = 237
    · refine key 35 128 159 (by unfold cls; rw [if_neg (by omega), if_neg (by omega), if_neg (by omega), if_neg (by omega), if_neg (by omega), if_pos (by omega)]) rfl rfl (by decide) (by decide) fun b c hc => ?_
      have := ub_lt b
      have := ub_lt c
      have := hc.1
      have := hc.2
      rw [ok]; unfold v3 cont; omega
    · refine key 3 128 191 (by
        unfold cls
        by_cases h7 : ub a < 237
        · rw [if_neg (by omega), if_neg (by omega), if_neg (by omega), if_neg (by omega), if_pos (by omega)]
        · rw [if_neg (by omega), if_neg (by omega), if_neg (by omega), if_neg (by omega), if_neg (by omega), if_neg (by omega), if_pos (by omega)]) rfl rfl (by decide) (by decide) fun b c hc => ?_
      have := ub_lt b
      have := ub_lt c
      have := hc.1
      have := hc.2
      rw [ok]; unfold v3 cont; omega
  rw [if_neg h4]
  by_cases h5 : ub a < 245
  · rw [if_pos h5]
    have key : ∀ (x1 l h : UInt8), cls a = x1 → Nat.ble (UInt8.toNat 240) x1.toNat = false → tab1[(Int.toNat (ub (shrB x1 4)))]? = some (l, h) → ub (shrB x1 4) < 16 → IntKind.wrap .i64 (ub (x1 &&& 7)) = 4 →
        (∀ b c d : UInt8, cont c → cont d → ((ub l ≤ ub b ∧ ub b ≤ ub h) ↔ (cont b ∧ 65536 ≤ v4 a b c d ∧ okc (v4 a b c d) = true))) → drs n (a :: r) = some (dp (match (generalizing := false) r with
          | b :: c :: d :: _ => if cont b ∧ cont c ∧ cont d ∧ 65536 ≤ v4 a b c d ∧ okc (v4 a b c d) = true then some (v4 a b c d, 4) else none
          | _ => none)) := by
      intro x1 l h e1 e2 e3 e4 e5 e6
      rw [two a x1 r n e1 e2 l h e3 e4 4 e5 hr]
      match r, hr with
      | [], _ => rfl
      | [b], _ => rfl
      | [b, c], _ => rfl
      | b :: c :: d :: s, hr =>
        rw [ilt_f (show (4 : Int) ≤ (((b :: c :: d :: s).length + 1 : Nat) : Int) by simp only [List.length_cons]; omega)]
        simp only [cond_false, List.getElem?_cons_zero, List.getElem?_cons_succ, Option.bind_some]
        by_cases hc : cont c
        · by_cases hd : cont d
          · have e := e6 b c d hc hd
            by_cases q : ub l ≤ ub b ∧ ub b ≤ ub h
            · have := e.1 q
              rw [if_pos q, if_pos hc, if_pos hd, if_pos ⟨this.1, hc, hd, this.2⟩]; rfl
            · rw [if_neg q, if_neg (fun hh => q (e.2 ⟨hh.1, hh.2.2.2⟩))]; rfl
          · rw [if_neg hd, if_neg (show ¬ (cont b ∧ cont c ∧ cont d ∧ 65536 ≤ v4 a b c d ∧ okc (v4 a b c d) = true) from fun hh => hd hh.2.2.1), if_pos hc]
            by_cases q : ub l ≤ ub b ∧ ub b ≤ ub h
            · rw [if_pos q]; rfl
            · rw [if_neg q]; rfl
        · rw [if_neg hc, if_neg (show ¬ (cont b ∧ cont c ∧ cont d ∧ 65536 ≤ v4 a b c d ∧ okc (v4 a b c d) = true) from fun hh => hc hh.2.1)]
          by_cases q : ub l ≤ ub b ∧ ub b ≤ ub h
          · rw [if_pos q]; rfl
          · rw [if_neg q]; rfl
    have u1 : ub 128 = 128 := rfl
    have u2 : ub 191 = 191 := rfl
    have u3 : ub 144 = 144 := rfl
    have u4 : ub 143 = 143 := rfl
    have ok : ∀ b c d : UInt8, okc (v4 a b c d) = true ↔ (0 ≤ v4 a b c d ∧ v4 a b c d ≤ 1114111 ∧ (v4 a b c d < 55296 ∨ 57343 < v4 a b c d)) := fun b c d => decide_eq_true_iff
    have na : ∀ k : Nat, ub a ≠ k → ¬ a.toNat = k := fun k h1 h2 => h1 (by rw [an, h2])
    by_cases h6 : ub a = 240
    · refine key 52 144 191 (by unfold cls; rw [if_neg (by omega), if_neg (by omega), if_neg (by omega), if_neg (by omega), if_neg (by omega), if_neg (by omega), if_neg (by omega), if_pos (by omega)]) rfl rfl (by decide) (by decide) fun b c d hc hd => ?_
      have := ub_lt b
      have := ub_lt c
      have := ub_lt d
      have := hc.1
      have := hc.2
      have := hd.1
      have := hd.2
      rw [ok]; unfold v4 cont; omega
    by_cases h7 : ub a = 244
    · refine key 68 128 143 (by unfold cls; rw [if_neg (by omega), if_neg (by omega), if_neg (by omega), if_neg (by omega), if_neg (by omega), if_neg (by omega), if_neg (by omega), if_neg (by omega), if_neg (by omega), if_pos (by omega)]) rfl rfl (by decide) (by decide) fun b c d hc hd => ?_
      have := ub_lt b
      have := ub_lt c
      have := ub_lt d
      have := hc.1
      have := hc.2
      have := hd.1
      have := hd.2
      rw [ok]; unfold v4 cont; omega
    · refine key 4 128 191 (by unfold cls; rw [if_neg (by omega), if_neg (by omega), if_neg (by omega), if_neg (by omega), if_neg (by omega), if_neg (by omega), if_neg (by omega), if_neg (by omega), if_pos (by omega)]) rfl rfl (by decide) (by decide) fun b c d hc hd => ?_
      have := ub_lt b
      have := ub_lt c
      have := ub_lt d
      have := hc.1
      have := hc.2
      have := hd.1
      have := hd.2
      rw [ok]; unfold v4 cont; omega
  rw [if_neg h5]
  refine bad a r n ?_ hr
  unfold cls
  rw [if_neg (by omega), if_neg (by omega), if_neg (by omega), if_neg (by omega), if_neg (by omega), if_neg (by omega), if_neg (by omega), if_neg (by omega), if_neg (by omega), if_neg (by omega)]

theorem dr_spec (n : Nat) (a : UInt8) (r : List UInt8) (hr : r.length < 10000000) : dr n (a :: r) = some (dp (pt (a :: r))) := by
  have ha := ub_lt a
  unfold dr
  simp only [L84_2, len, List.length_cons, ilt_t (show (0 : Int) < ((r.length + 1 : Nat) : Int) by omega), ile_t (show (0 : Int) ≤ 0 by decide), cond_true, show Int.toNat 0 = 0 from rfl, List.getElem?_cons_zero, Option.bind_some, blt_ub, show ub 128 = 128 from rfl]
  by_cases h : ub a < 128
  · have hp : pt (a :: r) = some (ub a, 1) := by rw [pt.eq_def]; dsimp only; rw [if_pos h]
    rw [decide_eq_true h, hp]
    simp only [cond_true, Option.bind_some, ub_wrap32]
    rfl
  · rw [decide_eq_false h]
    simp only [cond_false, Option.bind_some, drs_spec n a r (by omega) hr]
end Go.Proofs.YtlakipkfmdbckaaGreatDoor

/- Code points of UTF-8, and their bytes. -/
namespace Go.Proofs.YtlakipkfmdbckaaGreatDoor
open Go Go.Iv Go.Gv
set_option maxRecDepth 10000
theorem notm1 : okc (-1) = false := rfl
attribute [local irreducible] dr pt drs right is form
def d8 : Nat → List UInt8 → Option (List Int)
  | _, [] => some []
  | 0, _ :: _ => none
  | n + 1, a :: r => match pt (a :: r) with
    | none => none
    | some (c, k) => (d8 n ((a :: r).drop k)).map (c :: ·)

theorem sP (c65 : Int) : ∀ (m : Nat) (r : List UInt8) (n : Nat) (o : List Int), r.length ≤ m → o.length + r.length < 10000000 → m + 12 ≤ n →
    match d8 m r with
    | some xs => ∃ y, L83_0 n c65 o r = some (.inl y) ∧ y.2.2.2.1.1 = o ++ xs
    | none => ∃ x, L83_0 n c65 o r = some (.inr x) ∧ x.2.2.1.1 = 4 := by
  intro m
  induction m with
  | zero =>
    intro r n o hm ho hn
    obtain ⟨n, rfl⟩ : ∃ k, n = k + 1 := ⟨n - 1, by omega⟩
    have : r = [] := List.length_eq_zero_iff.1 (by omega)
    subst this
    simp only [L83_0, len, ilt_f (show (([] : List UInt8).length : Int) ≤ 0 by simp), cond_false, d8]
    exact ⟨_, rfl, (List.append_nil o).symm⟩
  | succ m ih =>
    intro r n o hm ho hn
    obtain ⟨n, rfl⟩ : ∃ k, n = k + 1 := ⟨n - 1, by omega⟩
    cases r with
    | nil =>
      simp only [L83_0, len, ilt_f (show (([] : List UInt8).length : Int) ≤ 0 by simp), cond_false, d8]
      exact ⟨_, rfl, (List.append_nil o).symm⟩
    | cons a r =>
      simp only [List.length_cons] at hm ho
      simp only [L83_0, len, ilt_t (show (0 : Int) < ((a :: r).length : Nat) by simp only [List.length_cons]; omega), cond_true, dr_spec (n + 1) a r (by omega), Option.bind_some, is_spec, d8]
      cases hp : pt (a :: r) with
      | none =>
        simp only [dp, notm1, Bool.not_false, cond_true, show ((65533 : Int) == 65533) = true from rfl, show ((1 : Int) == 1) = true from rfl]
        exact ⟨_, rfl, rfl⟩
      | some q =>
        obtain ⟨c, k⟩ := q
        obtain ⟨k1, k2, k3, k4, k5⟩ := pt_ok hp
        have e0 : (Int.toNat (k : Int)) = k := rfl
        have w : IntKind.wrap .i64 c = c := wrap_id (by omega) (by omega)
        have rm : room ((o.length + [c].length) * 9) = true := roomle (by simp; omega)
        simp only [dp, w, k1, Bool.not_true, cond_false, rm, cond_true, ile_t (show (0 : Int) ≤ k by omega), ile_t (show (k : Int) ≤ ((a :: r).length : Nat) by omega), Bool.and_self, e0, tkd]
        -- U+FFFD has three bytes
        have three : c = 65533 → ((k : Int) == 1) = false := fun e => by
          rw [beq_eq_false_iff_ne]
          intro hk
          have hk : k = 1 := by omega
          subst hk
          rw [pt.eq_def] at hp
          have ha := ub_lt a
          dsimp only at hp
          split at hp
          · cases hp; omega
          split at hp
          · cases hp
          split at hp
          · split at hp
            · split at hp <;> cases hp
            · cases hp
          split at hp
          · split at hp
            · split at hp <;> cases hp
            · cases hp
          split at hp
          · split at hp
            · split at hp <;> cases hp
            · cases hp
          · cases hp
        have next := ih ((a :: r).drop k) n (o ++ [c]) (by simp; omega) (by simp; omega) (by omega)
        have fin : ∀ v, v = L83_0 n c65 (o ++ [c]) ((a :: r).drop k) → match (d8 m ((a :: r).drop k)).map (c :: ·) with
            | some xs => ∃ y, v = some (.inl y) ∧ y.2.2.2.1.1 = o ++ xs
            | none => ∃ x, v = some (.inr x) ∧ x.2.2.1.1 = 4 := fun v hv => by
          subst hv
          revert next
          cases d8 m ((a :: r).drop k) with
          | none => exact id
          | some xs => exact fun ⟨y, y1, y2⟩ => ⟨y, y1, by simpa using y2⟩
        cases hc : (c == 65533) with
        | true =>
          rw [three (by simpa using hc)]
          exact fin _ rfl
        | false => exact fin _ rfl

/-! ### All -/
def by8 (x : Int) : UInt8 := UInt8.ofNat x.toNat
theorem ub_by {x : Int} (h1 : 0 ≤ x) (h2 : x < 256) : ub (by8 x) = x := by
  unfold ub by8; rw [UInt8.toNat_ofNat']; omega
theorem by_u8 {x : Int} (h1 : 0 ≤ x) : UInt8.ofNat (Int.toNat (IntKind.wrap .u8 x)) = by8 x := by
  unfold by8
  rw [IntKind.wrap_u8]
  apply UInt8.toNat_inj.1
  rw [UInt8.toNat_ofNat', UInt8.toNat_ofNat']
  omega
theorem u8or (k i : Nat) (y : Int) (h0 : 0 ≤ y) (h1 : y < 2 ^ i) (h2 : k * 2 ^ i < 256) (h3 : (k * 2 ^ i : Nat) + y < 256) (h4 : i ≤ 8) : UInt8.ofNat (k * 2 ^ i) ||| by8 y = by8 ((k * 2 ^ i : Nat) + y) := by
  unfold by8
  apply UInt8.toNat_inj.1
  have hp : (2 : Int) ^ i = ((2 ^ i : Nat) : Int) := by rw [Int.natCast_pow]; rfl
  rw [hp] at h1
  have h5 : y.toNat < 2 ^ i := by omega
  have e : ((k * 2 ^ i : Nat) + y).toNat = k * 2 ^ i + y.toNat := by omega
  rw [UInt8.toNat_or, UInt8.toNat_ofNat', UInt8.toNat_ofNat', UInt8.toNat_ofNat', e, Nat.mod_eq_of_lt h2, Nat.mod_eq_of_lt (by omega), Nat.mod_eq_of_lt (by omega), Nat.mul_comm k, Nat.two_pow_add_eq_or_of_lt h5]
theorem u8and63 {y : Int} (h0 : 0 ≤ y) : by8 y &&& 63 = by8 (y % 64) := by
  unfold by8
  apply UInt8.toNat_inj.1
  have e : (63 : UInt8).toNat = 2 ^ 6 - 1 := rfl
  rw [UInt8.toNat_and, e, Nat.and_two_pow_sub_one_eq_mod, UInt8.toNat_ofNat', UInt8.toNat_ofNat']
  omega

/-- What is none becomes U+FFFD. -/
def fx (c : Int) : Int := bif okc c then c else 65533
theorem fx_ok (c : Int) : okc (fx c) = true := by
  unfold fx
  cases h : okc c with
  | true => exact h
  | false => rfl
def en (c : Int) : List UInt8 :=
  if c < 128 then [by8 c] else if c < 2048 then [by8 (192 + c / 64), by8 (128 + c % 64)]
  else if c < 65536 then [by8 (224 + c / 4096), by8 (128 + c / 64 % 64), by8 (128 + c % 64)]
  else [by8 (240 + c / 262144), by8 (128 + c / 4096 % 64), by8 (128 + c / 64 % 64), by8 (128 + c % 64)]
def enL : List Int → List UInt8
  | [] => []
  | c :: r => en (fx c) ++ enL r

theorem en_len (c : Int) : 1 ≤ (en c).length ∧ (en c).length ≤ 4 := by
  unfold en
  split
  · simp
  split
  · simp
  split <;> simp

theorem pt_en {c : Int} (h : okc c = true) (r : List UInt8) : pt (en c ++ r) = some (c, (en c).length) := by
  have hc := of_decide_eq_true h
  unfold en
  by_cases h1 : c < 128
  · rw [if_pos h1, pt.eq_def]
    simp only [List.cons_append, List.nil_append]
    rw [ub_by (by omega) (by omega), if_pos h1]; rfl
  rw [if_neg h1]
  by_cases h2 : c < 2048
  · rw [if_pos h2, pt.eq_def]
    simp only [List.cons_append, List.nil_append]
    have a0 := ub_by (x := 192 + c / 64) (by omega) (by omega)
    have a1 := ub_by (x := 128 + c % 64) (by omega) (by omega)
    rw [a0, if_neg (by omega), if_neg (by omega), if_pos (by omega), if_pos ⟨by rw [a1]; omega, by rw [a1]; omega⟩]
    unfold v2
    rw [a0, a1]
    congr 2
    omega
  rw [if_neg h2]
  by_cases h3 : c < 65536
  · rw [if_pos h3, pt.eq_def]
    simp only [List.cons_append, List.nil_append]
    have a0 := ub_by (x := 224 + c / 4096) (by omega) (by omega)
    have a1 := ub_by (x := 128 + c / 64 % 64) (by omega) (by omega)
    have a2 := ub_by (x := 128 + c % 64) (by omega) (by omega)
    have e : v3 (by8 (224 + c / 4096)) (by8 (128 + c / 64 % 64)) (by8 (128 + c % 64)) = c := by
      unfold v3; rw [a0, a1, a2]; omega
    rw [a0, if_neg (by omega), if_neg (by omega), if_neg (by omega), if_pos (by omega), if_pos ⟨⟨by rw [a1]; omega, by rw [a1]; omega⟩, ⟨by rw [a2]; omega, by rw [a2]; omega⟩, by rw [e]; omega, by rw [e]; exact h⟩, e]
    rfl
  rw [if_neg h3, pt.eq_def]
  simp only [List.cons_append, List.nil_append]
  have a0 := ub_by (x := 240 + c / 262144) (by omega) (by omega)
  have a1 := ub_by (x := 128 + c / 4096 % 64) (by omega) (by omega)
  have a2 := ub_by (x := 128 + c / 64 % 64) (by omega) (by omega)
  have a3 := ub_by (x := 128 + c % 64) (by omega) (by omega)
  have e : v4 (by8 (240 + c / 262144)) (by8 (128 + c / 4096 % 64)) (by8 (128 + c / 64 % 64)) (by8 (128 + c % 64)) = c := by
    unfold v4; rw [a0, a1, a2, a3]; omega
  rw [a0, if_neg (by omega), if_neg (by omega), if_neg (by omega), if_neg (by omega), if_pos (by omega), if_pos ⟨⟨by rw [a1]; omega, by rw [a1]; omega⟩, ⟨by rw [a2]; omega, by rw [a2]; omega⟩, ⟨by rw [a3]; omega, by rw [a3]; omega⟩, by rw [e]; omega, by rw [e]; exact h⟩, e]
  rfl

theorem d8_en : ∀ (l : List Int) (m : Nat), l.length ≤ m → d8 m (enL l) = some (l.map fx) := by
  intro l
  induction l with
  | nil => intro m _; cases m <;> rfl
  | cons c r ih =>
    intro m hm
    obtain ⟨m, rfl⟩ : ∃ k, m = k + 1 := ⟨m - 1, by simp at hm; omega⟩
    simp only [List.length_cons] at hm
    have hp := pt_en (fx_ok c) (enL r)
    have hl := en_len (fx c)
    show d8 (m + 1) (en (fx c) ++ enL r) = _
    cases he : en (fx c) ++ enL r with
    | nil =>
      have := congrArg List.length he
      simp only [List.length_append, List.length_nil] at this; omega
    | cons a s =>
      rw [he] at hp
      simp only [d8, hp]
      rw [← he, List.drop_left, ih m (by omega)]
      rfl
theorem enL_len (l : List Int) : l.length ≤ (enL l).length ∧ (enL l).length ≤ 4 * l.length := by
  induction l with
  | nil => simp [enL]
  | cons c r ih =>
    have := en_len (fx c)
    simp only [enL, List.length_append, List.length_cons]; omega

/-! ### The document's -/
theorem i64shr6 (x : Int) : shrI .i64 x 6 = x / 64 := shrI_i64 x 6 (by decide)
theorem i64shr12 (x : Int) : shrI .i64 x 12 = x / 4096 := shrI_i64 x 12 (by decide)
theorem i64shr18 (x : Int) : shrI .i64 x 18 = x / 262144 := shrI_i64 x 18 (by decide)
theorem and63' {x : Int} (h1 : 0 ≤ x) (h2 : x ≤ 1114111) : andI .i64 x 63 = x % 64 := andI_i64 6 (by decide) x h1 (by omega)
theorem or128 {y : Int} (h1 : 0 ≤ y) (h2 : y < 128) : orI .i64 128 y = 128 + y := orI_i64 7 128 y (by decide) (by decide) (by decide) h1 (by omega) (by omega)
theorem or192 {y : Int} (h1 : 0 ≤ y) (h2 : y < 64) : orI .i64 192 y = 192 + y := orI_i64 6 192 y (by decide) (by decide) (by decide) h1 (by omega) (by omega)
theorem or224 {y : Int} (h1 : 0 ≤ y) (h2 : y < 32) : orI .i64 224 y = 224 + y := orI_i64 5 224 y (by decide) (by decide) (by decide) h1 (by omega) (by omega)
theorem or240 {y : Int} (h1 : 0 ≤ y) (h2 : y < 16) : orI .i64 240 y = 240 + y := orI_i64 4 240 y (by decide) (by decide) (by decide) h1 (by omega) (by omega)

theorem en_fffd : en 65533 = [239, 191, 189] := by decide

theorem bR (l : List Int) (hl : l.length < 100000) : ∀ (m : Nat) (r : List Int) (n i : Nat) (o : List UInt8), r.length ≤ m → l.drop i = r → i ≤ l.length → o.length + 4 * r.length < 10000000 → m + 4 ≤ n →
    L6_3 n l o (i : Int) = some ((o ++ enL r, ()), ()) := by
  intro m
  induction m with
  | zero =>
    intro r n i o hm hr hi ho hn
    obtain ⟨n, rfl⟩ : ∃ k, n = k + 1 := ⟨n - 1, by omega⟩
    have : r = [] := List.length_eq_zero_iff.1 (by omega)
    subst this
    have hlen : l.length ≤ i := by simpa using hr
    simp only [L6_3, len, ilt_f (show (l.length : Int) ≤ i by omega), cond_false, enL, List.append_nil]
  | succ m ih =>
    intro r n i o hm hr hi ho hn
    obtain ⟨n, rfl⟩ : ∃ k, n = k + 1 := ⟨n - 1, by omega⟩
    have hlen : l.length = i + r.length := by rw [← hr]; simp; omega
    cases r with
    | nil =>
      simp at hlen
      simp only [L6_3, len, ilt_f (show (l.length : Int) ≤ i by omega), cond_false, enL, List.append_nil]
    | cons c r =>
      simp only [List.length_cons] at hlen hm ho
      have e0 : (Int.toNat (i : Int)) = i := rfl
      have h0 := at_drop hr 0
      simp only [Nat.add_zero, List.getElem?_cons_zero] at h0
      have hd : l.drop (i + 1) = r := by rw [← List.drop_drop, hr]; rfl
      have w : IntKind.wrap .i64 ((i : Int) + 1) = ((i + 1 : Nat) : Int) := by rw [wrap_id] <;> omega
      have rm : ∀ k, k ≤ 4 → room ((o.length + k) * 2) = true := fun k hk => roomle (by omega)
      simp only [L6_3, len, ilt_t (show (i : Int) < l.length by omega), ile_t (show (0 : Int) ≤ i by omega), cond_true, e0, h0, Option.bind_some, right_spec, w, List.length_cons, List.length_nil, rm (0 + 1) (by omega), rm (0 + 1 + 1) (by omega), rm (0 + 1 + 1 + 1) (by omega), rm (0 + 1 + 1 + 1 + 1) (by omega), enL]
      have next : ∀ k : List UInt8, k = en (fx c) → L6_3 n l (o ++ k) ((i + 1 : Nat) : Int) = some ((o ++ (en (fx c) ++ enL r), ()), ()) := fun k hk => by
        subst hk
        have := en_len (fx c)
        rw [ih r n (i + 1) _ (by omega) hd (by omega) (by simp; omega) (by omega), List.append_assoc]
      cases hk : okc c with
      | false =>
        have hf : fx c = 65533 := by unfold fx; rw [hk]; rfl
        simp only [Bool.not_false, cond_true]
        exact next _ (by rw [hf, en_fffd])
      | true =>
        have hf : fx c = c := by unfold fx; rw [hk]; rfl
        have hc := of_decide_eq_true hk
        simp only [Bool.not_true, cond_false]
        unfold en at next
        rw [hf] at next ⊢
        by_cases h1 : c < 128
        · rw [ilt_t h1]
          simp only [cond_true]
          exact next _ (by rw [if_pos h1, by_u8 (by omega)])
        rw [ilt_f (by omega)]
        simp only [cond_false]
        by_cases h2 : c < 2048
        · rw [ilt_t h2]
          simp only [cond_true]
          exact next _ (by rw [if_neg h1, if_pos h2, i64shr6, and63' (by omega) (by omega), or192 (by omega) (by omega), or128 (by omega) (by omega), by_u8 (by omega), by_u8 (by omega)])
        rw [ilt_f (by omega)]
        simp only [cond_false]
        by_cases h3 : c < 65536
        · rw [ilt_t h3]
          simp only [cond_true]
          exact next _ (by rw [if_neg h1, if_neg h2, if_pos h3, i64shr6, i64shr12, and63' (x := c / 64) (by omega) (by omega), and63' (x := c) (by omega) (by omega), or224 (by omega) (by omega), or128 (by omega) (by omega), or128 (by omega) (by omega), by_u8 (by omega), by_u8 (by omega), by_u8 (by omega)])
        rw [ilt_f (by omega)]
        simp only [cond_false]
        exact next _ (by rw [if_neg h1, if_neg h2, if_neg h3, i64shr6, i64shr12, i64shr18, and63' (x := c / 4096) (by omega) (by omega), and63' (x := c / 64) (by omega) (by omega), and63' (x := c) (by omega) (by omega), or240 (by omega) (by omega), or128 (by omega) (by omega), or128 (by omega) (by omega), or128 (by omega) (by omega), by_u8 (by omega), by_u8 (by omega), by_u8 (by omega), by_u8 (by omega)])

/-! ### The program's -/
theorem bytesR_spec (n : Nat) (l : List Int) (hl : l.length < 100000) (hn : l.length + 4 ≤ n) : bytesR n l = some (enL l, ()) := by
  unfold bytesR
  rw [show (0 : Int) = ((0 : Nat) : Int) from rfl, bR l hl l.length l n 0 [] (by omega) rfl (by omega) (by simp; omega) hn]
  rfl
end Go.Proofs.YtlakipkfmdbckaaGreatDoor

/- Plain functions for the program's. -/
namespace Go.Proofs.YtlakipkfmdbckaaGreatDoor
open Go Go.Iv Go.Gv
set_option maxRecDepth 100000
set_option linter.unusedVariables false
noncomputable def printR (_n : Nat) (c : Int) : Option (Bool × Unit) :=
  Option.bind (bif (c == (9 : Int)) then
      some Bool.true
    else
    bif (c == (10 : Int)) then
      some Bool.true
    else
    bif (c == (13 : Int)) then
      some Bool.true
    else
    bif (Go.Iv.ile (32 : Int) c) then
      bif (Go.Iv.ile c (126 : Int)) then
        some Bool.true
      else
      bif (c == (133 : Int)) then
        some Bool.true
      else
      bif (Go.Iv.ile (160 : Int) c) then
        bif (Go.Iv.ilt c (55296 : Int)) then
          some Bool.true
        else
        bif (Go.Iv.ile (57344 : Int) c) then
          bif (Go.Iv.ile c (65533 : Int)) then
            some Bool.true
          else
          bif (Go.Iv.ile (65536 : Int) c) then
            some (Go.Iv.ile c (1114111 : Int))
          else
          some Bool.false
        else
        bif (Go.Iv.ile (65536 : Int) c) then
          some (Go.Iv.ile c (1114111 : Int))
        else
        some Bool.false
      else
      bif (Go.Iv.ile (57344 : Int) c) then
        bif (Go.Iv.ile c (65533 : Int)) then
          some Bool.true
        else
        bif (Go.Iv.ile (65536 : Int) c) then
          some (Go.Iv.ile c (1114111 : Int))
        else
        some Bool.false
      else
      bif (Go.Iv.ile (65536 : Int) c) then
        some (Go.Iv.ile c (1114111 : Int))
      else
      some Bool.false
    else
    bif (c == (133 : Int)) then
      some Bool.true
    else
    bif (Go.Iv.ile (160 : Int) c) then
      bif (Go.Iv.ilt c (55296 : Int)) then
        some Bool.true
      else
      bif (Go.Iv.ile (57344 : Int) c) then
        bif (Go.Iv.ile c (65533 : Int)) then
          some Bool.true
        else
        bif (Go.Iv.ile (65536 : Int) c) then
          some (Go.Iv.ile c (1114111 : Int))
        else
        some Bool.false
      else
      bif (Go.Iv.ile (65536 : Int) c) then
        some (Go.Iv.ile c (1114111 : Int))
      else
      some Bool.false
    else
    bif (Go.Iv.ile (57344 : Int) c) then
      bif (Go.Iv.ile c (65533 : Int)) then
        some Bool.true
      else
      bif (Go.Iv.ile (65536 : Int) c) then
        some (Go.Iv.ile c (1114111 : Int))
      else
      some Bool.false
    else
    bif (Go.Iv.ile (65536 : Int) c) then
      some (Go.Iv.ile c (1114111 : Int))
    else
    some Bool.false) fun b1 =>
  some (b1, ())
noncomputable def printR_it : FnIt := ⟨5, [(false, (.int .i64))], [(false, .bool)], 0, fun n x => printR n x.1⟩
theorem printR_ok (n : Nat) : FnOK Go.Proofs.Tryz.prog hint shT printR_it n :=
  FnOK.of (hk := fun β => (Known.mk [] []).hk β) (sh := shT) (fun m _ => KnownOK.hook KnownOK.nil m) (fun x => by kernel_rfl)

noncomputable def print (_n : Nat) (c : Int) : Option (Bool × Unit) :=
  bif (c == (9 : Int)) then
    some (Bool.true, ())
  else
  bif (c == (10 : Int)) then
    some (Bool.true, ())
  else
  bif (c == (13 : Int)) then
    some (Bool.true, ())
  else
  bif (c == (133 : Int)) then
    some (Bool.true, ())
  else
  Option.bind (bif (Go.Iv.ile (32 : Int) c) then
      some (Go.Iv.ile c (126 : Int))
    else
    some Bool.false) fun b1 =>
  bif b1 then
    some (Bool.true, ())
  else
  Option.bind (bif (Go.Iv.ile (160 : Int) c) then
      some (Go.Iv.ile c (55295 : Int))
    else
    some Bool.false) fun b3 =>
  bif b3 then
    some (Bool.true, ())
  else
  Option.bind (bif (Go.Iv.ile (57344 : Int) c) then
      some (Go.Iv.ile c (65533 : Int))
    else
    some Bool.false) fun b5 =>
  bif b5 then
    some (Bool.true, ())
  else
  Option.bind (bif (Go.Iv.ile (65536 : Int) c) then
      some (Go.Iv.ile c (1114111 : Int))
    else
    some Bool.false) fun b7 =>
  some (b7, ())
noncomputable def print_it : FnIt := ⟨29, [(false, (.int .i64))], [(false, .bool)], 1, fun n x => print n x.1⟩
theorem print_ok (n : Nat) : FnOK Go.Proofs.Tryz.prog hint shT print_it n :=
  FnOK.of (hk := fun β => (Known.mk [] []).hk β) (sh := shT) (fun m _ => KnownOK.hook KnownOK.nil m) (fun x => by kernel_rfl)

noncomputable def L16_2_Xexit0 : Tm := ⟨[(0, .one (.lst (.int .i64))), (2, .one (.fix (Go.Gv.TV.raw (Go.Value.slice (Option.none) 0 0)))), (3, .one (.int .i64))], [], 64, 64, 1000⟩
noncomputable def L16_2_Xret : Tm := ⟨[(2, .one (.fix (Go.Gv.TV.raw (Go.Value.slice (Option.none) 0 0)))), (3, .one (.int .i64))], [], 64, 64, 1000⟩
noncomputable def L16_2_T : Tm := ⟨[(0, .one (.lst (.int .i64))), (2, .one (.fix (Go.Gv.TV.raw (Go.Value.slice (Option.none) 0 0)))), (3, .one (.int .i64)), (9, .one (.lst (.int .i64))), (10, .one (.int .i64)), (11, .one (.int .i64))], [], 64, 64, 1000⟩
noncomputable def L16_2 : Nat → (List Int) → Int → (List Int) → Int → Int → Option ((((List Int) × (Unit × (Int × Unit))) × Unit) ⊕ ((Unit × (Int × Unit)) × Unit))
  | 0, _, _, _, _, _ => none
  | n + 1, t0, t3, t9, t10, t11 =>
    bif (Go.Iv.ilt t11 t10) then
      bif (Go.Iv.ile (0 : Int) t11) then
      Option.bind (t9[(Int.toNat t11)]?) fun x5 =>
      Option.bind (print (n + 1) x5) fun y6 =>
      bif (!y6.1) then
        some (.inr (((), ((4 : Int), ())), ()))
      else
      bif (x5 == (65279 : Int)) then
        some (.inr (((), ((4 : Int), ())), ()))
      else
      L16_2 n t0 t3 t9 t10 (Go.IntKind.wrap Go.IntKind.i64 (t11 + (1 : Int)))
      else none
    else
    some (.inl ((t0, ((), (t3, ()))), ()))
noncomputable def L16_2_it : LoopIt := ⟨16, 2, none, L16_2_T, [(.exit 0, L16_2_Xexit0), (.ret, L16_2_Xret)], 2, fun n x => L16_2 n x.1.1 x.1.2.2.1 x.1.2.2.2.1 x.1.2.2.2.2.1 x.1.2.2.2.2.2.1⟩
theorem L16_2_Xexit0_ok : L16_2_Xexit0.ok Go.Proofs.Tryz.prog hint := by
  intro p hp
  cases hp
theorem L16_2_Xret_ok : L16_2_Xret.ok Go.Proofs.Tryz.prog hint := by
  intro p hp
  cases hp
theorem L16_2_T_ok : L16_2_T.ok Go.Proofs.Tryz.prog hint := by
  intro p hp
  cases hp
theorem L16_2_ok : ∀ n, LoopOK Go.Proofs.Tryz.prog hint shT L16_2_it n :=
  LoopOK.of (hk := fun β => (Known.mk [print_it] []).hk β) (sh := shT) (OneLoop.of (by kernel_rfl)) L16_2_T_ok ⟨⟨L16_2_Xexit0_ok, Nat.le_refl _, Nat.le_refl _⟩, ⟨L16_2_Xret_ok, Nat.le_refl _, Nat.le_refl _⟩, trivial⟩ (fun m => KnownOK.hook (KnownOK.nil.fn print_ok) m)
    (fun _ => by kernel_rfl) (fun m x => by kernel_rfl)

noncomputable def events (n : Nat) (b : List UInt8) : Option ((List (Int × (List UInt8 × (List UInt8 × (List UInt8 × (Int × Bool)))))) × (Int × Unit)) :=
  Option.bind (points n b) fun y0 =>
  bif (y0.2.1 != (0 : Int)) then
    some ([], y0.2.1, ())
  else
  Option.bind (L16_2 (n + 3) y0.1 (0 : Int) y0.1 (len y0.1) (0 : Int)) fun y7 =>
  match y7 with
    | .inl _ =>
      none
    | .inr y9 =>
      bif (y9.1.2.1 != (0 : Int)) then
        some ([], y9.1.2.1, ())
      else
      none
noncomputable def events_it : FnIt := ⟨9, [(false, (.slc .byte))], [(false, (.slc (.cons (.int .i64) (.cons .str (.cons .str (.cons .str (.cons (.int .i64) .bool))))))), (false, (.int .i64))], 6, fun n x => events n x.1⟩
theorem events_ok (n : Nat) : FnOK Go.Proofs.Tryz.prog hint shT events_it n :=
  FnOK.of (hk := fun β => (Known.mk [points_it] [L16_2_it]).hk β) (sh := shT) (fun m _ => KnownOK.hook ((KnownOK.nil.fn points_ok).loop L16_2_ok L16_2_T_ok) m) (fun x => by kernel_rfl)

noncomputable def load (n : Nat) (b : List UInt8) (l : (Int × (Int × Int))) (_to : Int) : Option ((List (Int × (List UInt8 × (List UInt8 × (List Int × Bool)))) × List Int) × (Int × Unit)) :=
  bif (Go.Iv.ilt (bif (Go.Iv.ilt (1048576 : Int) (bif (Go.Iv.ilt (0 : Int) l.1) then l.1 else (0 : Int))) then (1048576 : Int) else (bif (Go.Iv.ilt (0 : Int) l.1) then l.1 else (0 : Int))) (len b)) then
    some (([], ([] : List Int)), (3 : Int), ())
  else
  Option.bind (events n b) fun y0 =>
  bif (y0.2.1 != (0 : Int)) then
    some (([], ([] : List Int)), y0.2.1, ())
  else
  none
noncomputable def load_it : FnIt := ⟨7, [(false, (.slc .byte)), (true, (.cons (.int .i64) (.cons (.int .i64) (.int .i64)))), (false, (.int .i64))], [(true, (.cons (.slc (.cons (.int .i64) (.cons .str (.cons .str (.cons (.slc (.int .i64)) .bool))))) (.slc (.int .i64)))), (false, (.int .i64))], 7, fun n x => load n x.1 x.2.1 x.2.2.1⟩
theorem load_ok (n : Nat) : FnOK Go.Proofs.Tryz.prog hint shT load_it n :=
  FnOK.of (hk := fun β => (Known.mk [events_it] []).hk β) (sh := shT) (fun m _ => KnownOK.hook (KnownOK.nil.fn events_ok) m) (fun x => by kernel_rfl)

noncomputable def L3_7_Xexit0 : Tm := ⟨[(0, .one (.str)), (1, .one (.str)), (2, .one (.int .i64))], [], 64, 64, 1000⟩
noncomputable def L3_7_Xret : Tm := ⟨[(6, .one (.bool))], [], 64, 64, 1000⟩
noncomputable def L3_7_T : Tm := ⟨[(0, .one (.str)), (1, .one (.str)), (2, .one (.int .i64)), (9, .one (.str)), (10, .one (.int .i64))], [], 64, 64, 1000⟩
noncomputable def L3_7 : Nat → (List UInt8) → (List UInt8) → Int → (List UInt8) → Int → Option ((((List UInt8) × ((List UInt8) × (Int × Unit))) × Unit) ⊕ ((Bool × Unit) × Unit))
  | 0, _, _, _, _, _ => none
  | n + 1, t0, t1, t2, t9, t10 =>
    bif (Go.Iv.ilt t10 (len t9)) then
      Option.bind (bif (Go.Iv.ile (0 : Int) t10) then
        Option.bind (t9[(Int.toNat t10)]?) fun x14 =>
        bif (x14 != (10 : UInt8)) then
          bif (Go.Iv.ile (0 : Int) t10) then
          Option.bind (t9[(Int.toNat t10)]?) fun x15 =>
          bif (Nat.blt (UInt8.toNat x15) (UInt8.toNat (32 : UInt8))) then
            some Bool.true
          else
          bif (Go.Iv.ile (0 : Int) t10) then
          Option.bind (t9[(Int.toNat t10)]?) fun x16 =>
          some (Nat.blt (UInt8.toNat (126 : UInt8)) (UInt8.toNat x16))
          else none
          else none
        else
        some Bool.false
        else none) fun b17 =>
      bif b17 then
        some (.inr ((Bool.true, ()), ()))
      else
      L3_7 n t0 t1 t2 t9 (Go.IntKind.wrap Go.IntKind.i64 (t10 + (1 : Int)))
    else
    some (.inl ((t0, (t1, (t2, ()))), ()))
noncomputable def L3_7_it : LoopIt := ⟨3, 7, none, L3_7_T, [(.exit 0, L3_7_Xexit0), (.ret, L3_7_Xret)], 0, fun n x => L3_7 n x.1.1 x.1.2.1 x.1.2.2.1 x.1.2.2.2.1 x.1.2.2.2.2.1⟩
theorem L3_7_Xexit0_ok : L3_7_Xexit0.ok Go.Proofs.Tryz.prog hint := by
  intro p hp
  cases hp
theorem L3_7_Xret_ok : L3_7_Xret.ok Go.Proofs.Tryz.prog hint := by
  intro p hp
  cases hp
theorem L3_7_T_ok : L3_7_T.ok Go.Proofs.Tryz.prog hint := by
  intro p hp
  cases hp
theorem L3_7_ok : ∀ n, LoopOK Go.Proofs.Tryz.prog hint shT L3_7_it n :=
  LoopOK.of (hk := fun β => (Known.mk [] []).hk β) (sh := shT) (OneLoop.of (by kernel_rfl)) L3_7_T_ok ⟨⟨L3_7_Xexit0_ok, Nat.le_refl _, Nat.le_refl _⟩, ⟨L3_7_Xret_ok, Nat.le_refl _, Nat.le_refl _⟩, trivial⟩ (fun m => KnownOK.hook KnownOK.nil m)
    (fun _ => by kernel_rfl) (fun m x => by kernel_rfl)

noncomputable def loadChars (n : Nat) (a : List UInt8) (b : List UInt8) (c : Int) : Option (Bool × Unit) :=
  bif (Go.Iv.ile (0 : Int) c) then
    bif (Go.Iv.ile c (1114111 : Int)) then
      bif (Go.Iv.ilt c (55296 : Int)) then
        Option.bind (printR (n + 7) c) fun y0 =>
        bif (!y0.1) then
          Option.bind (bif (Go.Iv.ilt (len a) (1 : Int)) then
              some Bool.true
            else
            bif (Go.Iv.ilt (200 : Int) (len a)) then
              some Bool.true
            else
            some (Go.Iv.ilt (200 : Int) (len b))) fun b2 =>
          bif b2 then
            some (Bool.true, ())
          else
          bif (room ((List.length a) + (List.length b))) then
          Option.bind (L3_7 (n + 8) a b c (a ++ b) (0 : Int)) fun y18 =>
          match y18 with
            | .inl y19 =>
              bif (room ((List.length ([(120 : UInt8), (120 : UInt8)] : List UInt8)) + (List.length y19.1.1))) then
              Option.bind (bytesR (n + 5) (y19.1.2.2.1 :: ([] : List Int))) fun y21 =>
              bif (room ((List.length (([(120 : UInt8), (120 : UInt8)] : List UInt8) ++ y19.1.1)) + (List.length y21.1))) then
              bif (room ((List.length ((([(120 : UInt8), (120 : UInt8)] : List UInt8) ++ y19.1.1) ++ y21.1)) + (List.length y19.1.2.1))) then
              Option.bind (load n (((([(120 : UInt8), (120 : UInt8)] : List UInt8) ++ y19.1.1) ++ y21.1) ++ y19.1.2.1) ((1048576 : Int), ((200 : Int), (20000 : Int))) (2 : Int)) fun y22 =>
              Option.bind (events (n + 1) (((([(120 : UInt8), (120 : UInt8)] : List UInt8) ++ y19.1.1) ++ y21.1) ++ y19.1.2.1)) fun y23 =>
              bif (y22.2.1 == (4 : Int)) then
                bif ((len y22.1.1) == (0 : Int)) then
                  bif (y23.2.1 == (4 : Int)) then
                    some (((len y23.1) == (0 : Int)), ())
                  else
                  some (Bool.false, ())
                else
                some (Bool.false, ())
              else
              some (Bool.false, ())
              else none
              else none
              else none
            | .inr y20 =>
              some (y20.1.1, ())
          else none
        else
        Option.bind (bif (!(c == (65279 : Int))) then
            some Bool.true
          else
          bif (Go.Iv.ilt (len a) (1 : Int)) then
            some Bool.true
          else
          bif (Go.Iv.ilt (200 : Int) (len a)) then
            some Bool.true
          else
          some (Go.Iv.ilt (200 : Int) (len b))) fun b25 =>
        bif b25 then
          some (Bool.true, ())
        else
        bif (room ((List.length a) + (List.length b))) then
        Option.bind (L3_7 (n + 8) a b c (a ++ b) (0 : Int)) fun y26 =>
        match y26 with
          | .inl y27 =>
            bif (room ((List.length ([(120 : UInt8), (120 : UInt8)] : List UInt8)) + (List.length y27.1.1))) then
            Option.bind (bytesR (n + 5) (y27.1.2.2.1 :: ([] : List Int))) fun y29 =>
            bif (room ((List.length (([(120 : UInt8), (120 : UInt8)] : List UInt8) ++ y27.1.1)) + (List.length y29.1))) then
            bif (room ((List.length ((([(120 : UInt8), (120 : UInt8)] : List UInt8) ++ y27.1.1) ++ y29.1)) + (List.length y27.1.2.1))) then
            Option.bind (load n (((([(120 : UInt8), (120 : UInt8)] : List UInt8) ++ y27.1.1) ++ y29.1) ++ y27.1.2.1) ((1048576 : Int), ((200 : Int), (20000 : Int))) (2 : Int)) fun y30 =>
            Option.bind (events (n + 1) (((([(120 : UInt8), (120 : UInt8)] : List UInt8) ++ y27.1.1) ++ y29.1) ++ y27.1.2.1)) fun y31 =>
            bif (y30.2.1 == (4 : Int)) then
              bif ((len y30.1.1) == (0 : Int)) then
                bif (y31.2.1 == (4 : Int)) then
                  some (((len y31.1) == (0 : Int)), ())
                else
                some (Bool.false, ())
              else
              some (Bool.false, ())
            else
            some (Bool.false, ())
            else none
            else none
            else none
          | .inr y28 =>
            some (y28.1.1, ())
        else none
      else
      bif (Go.Iv.ilt (57343 : Int) c) then
        Option.bind (printR (n + 7) c) fun y32 =>
        bif (!y32.1) then
          Option.bind (bif (Go.Iv.ilt (len a) (1 : Int)) then
              some Bool.true
            else
            bif (Go.Iv.ilt (200 : Int) (len a)) then
              some Bool.true
            else
            some (Go.Iv.ilt (200 : Int) (len b))) fun b34 =>
          bif b34 then
            some (Bool.true, ())
          else
          bif (room ((List.length a) + (List.length b))) then
          Option.bind (L3_7 (n + 8) a b c (a ++ b) (0 : Int)) fun y35 =>
          match y35 with
            | .inl y36 =>
              bif (room ((List.length ([(120 : UInt8), (120 : UInt8)] : List UInt8)) + (List.length y36.1.1))) then
              Option.bind (bytesR (n + 5) (y36.1.2.2.1 :: ([] : List Int))) fun y38 =>
              bif (room ((List.length (([(120 : UInt8), (120 : UInt8)] : List UInt8) ++ y36.1.1)) + (List.length y38.1))) then
              bif (room ((List.length ((([(120 : UInt8), (120 : UInt8)] : List UInt8) ++ y36.1.1) ++ y38.1)) + (List.length y36.1.2.1))) then
              Option.bind (load n (((([(120 : UInt8), (120 : UInt8)] : List UInt8) ++ y36.1.1) ++ y38.1) ++ y36.1.2.1) ((1048576 : Int), ((200 : Int), (20000 : Int))) (2 : Int)) fun y39 =>
              Option.bind (events (n + 1) (((([(120 : UInt8), (120 : UInt8)] : List UInt8) ++ y36.1.1) ++ y38.1) ++ y36.1.2.1)) fun y40 =>
              bif (y39.2.1 == (4 : Int)) then
                bif ((len y39.1.1) == (0 : Int)) then
                  bif (y40.2.1 == (4 : Int)) then
                    some (((len y40.1) == (0 : Int)), ())
                  else
                  some (Bool.false, ())
                else
                some (Bool.false, ())
              else
              some (Bool.false, ())
              else none
              else none
              else none
            | .inr y37 =>
              some (y37.1.1, ())
          else none
        else
        Option.bind (bif (!(c == (65279 : Int))) then
            some Bool.true
          else
          bif (Go.Iv.ilt (len a) (1 : Int)) then
            some Bool.true
          else
          bif (Go.Iv.ilt (200 : Int) (len a)) then
            some Bool.true
          else
          some (Go.Iv.ilt (200 : Int) (len b))) fun b42 =>
        bif b42 then
          some (Bool.true, ())
        else
        bif (room ((List.length a) + (List.length b))) then
        Option.bind (L3_7 (n + 8) a b c (a ++ b) (0 : Int)) fun y43 =>
        match y43 with
          | .inl y44 =>
            bif (room ((List.length ([(120 : UInt8), (120 : UInt8)] : List UInt8)) + (List.length y44.1.1))) then
            Option.bind (bytesR (n + 5) (y44.1.2.2.1 :: ([] : List Int))) fun y46 =>
            bif (room ((List.length (([(120 : UInt8), (120 : UInt8)] : List UInt8) ++ y44.1.1)) + (List.length y46.1))) then
            bif (room ((List.length ((([(120 : UInt8), (120 : UInt8)] : List UInt8) ++ y44.1.1) ++ y46.1)) + (List.length y44.1.2.1))) then
            Option.bind (load n (((([(120 : UInt8), (120 : UInt8)] : List UInt8) ++ y44.1.1) ++ y46.1) ++ y44.1.2.1) ((1048576 : Int), ((200 : Int), (20000 : Int))) (2 : Int)) fun y47 =>
            Option.bind (events (n + 1) (((([(120 : UInt8), (120 : UInt8)] : List UInt8) ++ y44.1.1) ++ y46.1) ++ y44.1.2.1)) fun y48 =>
            bif (y47.2.1 == (4 : Int)) then
              bif ((len y47.1.1) == (0 : Int)) then
                bif (y48.2.1 == (4 : Int)) then
                  some (((len y48.1) == (0 : Int)), ())
                else
                some (Bool.false, ())
              else
              some (Bool.false, ())
            else
            some (Bool.false, ())
            else none
            else none
            else none
          | .inr y45 =>
            some (y45.1.1, ())
        else none
      else
      some (Bool.true, ())
    else
    some (Bool.true, ())
  else
  some (Bool.true, ())
noncomputable def loadChars_it : FnIt := ⟨3, [(false, .str), (false, .str), (false, (.int .i64))], [(false, .bool)], 8, fun n x => loadChars n x.1 x.2.1 x.2.2.1⟩
theorem loadChars_ok (n : Nat) : FnOK Go.Proofs.Tryz.prog hint shT loadChars_it n :=
  FnOK.of (hk := fun β => (Known.mk [events_it, load_it, bytesR_it, printR_it] [L3_7_it]).hk β) (sh := shT) (fun m _ => KnownOK.hook (((((KnownOK.nil.fn printR_ok).loop L3_7_ok L3_7_T_ok).fn bytesR_ok).fn load_ok).fn events_ok) m) (fun x => by kernel_rfl)


end Go.Proofs.YtlakipkfmdbckaaGreatDoor

/- Whatever may not stand in a text is told. -/
namespace Go.Proofs.YtlakipkfmdbckaaGreatDoor
open Go Go.Iv Go.Gv
set_option maxRecDepth 10000

def prB (c : Int) : Bool := decide (c = 9 ∨ c = 10 ∨ c = 13 ∨ c = 133 ∨ (32 ≤ c ∧ c ≤ 126) ∨ (160 ≤ c ∧ c ≤ 55295) ∨ (57344 ≤ c ∧ c ≤ 65533) ∨ (65536 ≤ c ∧ c ≤ 1114111))
theorem bnd (a b c : Int) : (bif Go.Iv.ile a c then some (Go.Iv.ile c b) else some Bool.false) = some (decide (a ≤ c ∧ c ≤ b)) := by
  rw [ile_eq, ile_eq]
  by_cases h1 : a ≤ c <;> by_cases h2 : c ≤ b <;> simp [h1, h2]
theorem print_spec (n : Nat) (c : Int) : print n c = some (prB c, ()) := by
  unfold print prB
  simp only [bnd, Option.bind_some]
  simp only [cond_eq_ite, decide_eq_true_eq, beq_iff_eq]
  have key : ∀ {q r : Bool}, (q = true ↔ r = true) → (some (q, ()) : Option (Bool × Unit)) = some (r, ()) := fun {q r} h => by
    rw [Bool.eq_iff_iff.2 h]
  repeat' split
  all_goals refine key ?_
  all_goals simp only [true_iff, decide_eq_true_eq]
  all_goals omega
theorem printR_spec (n : Nat) (c : Int) : printR n c = some (prB c, ()) := by
  unfold printR prB
  simp only [ile_eq, ilt_eq, cond_eq_ite, decide_eq_true_eq, beq_iff_eq]
  have key : ∀ {q r : Bool}, (q = true ↔ r = true) → ((some q).bind fun b1 => some (b1, ()) : Option (Bool × Unit)) = some (r, ()) := fun {q r} h => by
    rw [Bool.eq_iff_iff.2 h]; rfl
  repeat' split
  all_goals refine key ?_
  all_goals simp only [true_iff, decide_eq_true_eq, Bool.false_eq_true, false_iff]
  all_goals omega

def badC (c : Int) : Bool := !prB c || c == 65279
theorem read_loop (t0 l : List Int) (t3 : Int) (hl : l.length < 1000000000) : ∀ (r : List Int) (i n : Nat), l.drop i = r → r.any badC = true → r.length + 1 ≤ n → L16_2 n t0 t3 l (len l) (i : Int) = some (.inr (((), ((4 : Int), ())), ())) := by
  intro r
  induction r with
  | nil => intro i n _ h; cases h
  | cons x r ih =>
    intro i n hr h hn
    obtain ⟨n, rfl⟩ : ∃ k, n = k + 1 := ⟨n - 1, by omega⟩
    have hlen : l.length = i + (r.length + 1) := by
      have := congrArg List.length hr
      simp at this; omega
    have hx : l[i]? = some x := by have := at_drop hr 0; simpa using this
    have hr2 : l.drop (i + 1) = r := by rw [← List.drop_drop, hr]; rfl
    have w : IntKind.wrap .i64 ((i : Int) + 1) = ((i + 1 : Nat) : Int) := by rw [wrap_id] <;> omega
    have e0 : (Int.toNat (i : Int)) = i := rfl
    simp only [L16_2, len, ilt_t (show (i : Int) < l.length by omega), ile_t (show (0 : Int) ≤ i by omega), cond_true, e0, hx, Option.bind_some, print_spec, w]
    simp only [List.any_cons, badC] at h
    cases hp : prB x with
    | false => rfl
    | true =>
      cases h2 : (x == (65279 : Int)) with
      | true => rfl
      | false =>
        simp only [hp, h2, Bool.not_true, Bool.or_self, Bool.false_or] at h
        simp only [Bool.not_true, cond_false]
        exact ih (i + 1) n hr2 h (by simp at hn; omega)

def lit : List UInt8 → Prop := fun l => ∀ x ∈ l, ub x < 128
theorem d8_app : ∀ (p q : List UInt8) (m : Nat), lit p → p.length ≤ m → d8 m (p ++ q) = (d8 (m - p.length) q).map (p.map ub ++ ·) := by
  intro p
  induction p with
  | nil => intro q m _ _; simp
  | cons a r ih =>
    intro q m h hm
    obtain ⟨m, rfl⟩ : ∃ k, m = k + 1 := ⟨m - 1, by simp at hm; omega⟩
    have hp : pt (a :: (r ++ q)) = some (ub a, 1) := by
      have e := pt.eq_def (a :: (r ++ q))
      dsimp only at e
      rw [e, if_pos (h a (List.mem_cons_self ..))]
    simp only [List.cons_append]
    conv => lhs; unfold d8
    rw [hp]
    simp only [List.drop_succ_cons, List.drop_zero]
    rw [ih q m (fun x hx => h x (List.mem_cons_of_mem _ hx)) (by simp at hm; omega)]
    have : m + 1 - (a :: r).length = m - r.length := by simp
    rw [this]
    cases d8 (m - r.length) q <;> simp
theorem d8_lit (p : List UInt8) (m : Nat) (h : lit p) (hm : p.length ≤ m) : d8 m p = some (p.map ub) := by
  have := d8_app p [] m h hm
  rw [List.append_nil] at this
  rw [this]
  have e : d8 (m - p.length) [] = some [] := by cases m - p.length <;> rfl
  rw [e]; simp
theorem d8_mid (p q : List UInt8) (c : Int) (m : Nat) (hp : lit p) (hq : lit q) (hc : okc c = true) (hm : (p ++ en c ++ q).length ≤ m) : d8 m (p ++ en c ++ q) = some (p.map ub ++ (c :: q.map ub)) := by
  have hl := en_len c
  simp only [List.length_append] at hm
  rw [List.append_assoc, d8_app p _ m hp (by omega)]
  obtain ⟨k, hk⟩ : ∃ k, m - p.length = k + 1 := ⟨m - p.length - 1, by omega⟩
  rw [hk]
  have e := pt_en hc q
  cases hen : en c ++ q with
  | nil => have := congrArg List.length hen; simp only [List.length_append, List.length_nil] at this; omega
  | cons a r =>
    rw [hen] at e
    unfold d8
    rw [e]
    have hd : (a :: r).drop (en c).length = q := by rw [← hen]; simp
    dsimp only
    rw [hd, d8_lit q k hq (by omega)]
    simp

theorem frm_xx (r : List UInt8) : frm (120 :: 120 :: r) = (1, 0) := by
  match r with
  | [] => rfl
  | [_] => rfl
  | c :: d :: s =>
    cases h1 : (c == (0 : UInt8)) <;> cases h2 : (d == (0 : UInt8)) <;> simp [frm, pre, tl, t4, h1, h2]

theorem points_xx (n : Nat) (r : List UInt8) (xs : List Int) (hr : r.length < 100000) (hn : r.length + 100 ≤ n) (hd : d8 (r.length + 2) (120 :: 120 :: r) = some xs) : points n (120 :: 120 :: r) = some (xs, (0, ())) := by
  unfold points
  rw [form_spec (n + 2) _ (by omega), frm_xx]
  have h := sP 0 (r.length + 2) (120 :: 120 :: r) (n + 2) [] (by simp) (by simp; omega) (by omega)
  rw [hd] at h
  obtain ⟨y, h1, h2⟩ := h
  have e : List.take ((120 :: 120 :: r).length - Int.toNat 0) (List.drop (Int.toNat 0) ((120 : UInt8) :: 120 :: r)) = 120 :: 120 :: r := tkd _ 0
  simp only [len, List.length_cons, ilt_f (show ((r.length + 1 + 1 : Nat) : Int) ≤ 1048576 by omega), cond_false, Option.bind_some, ile_t (show (0 : Int) ≤ 0 by omega), ile_t (show (0 : Int) ≤ ((r.length + 1 + 1 : Nat) : Int) by omega), Bool.and_self, cond_true]
  simp only [List.length_cons] at e
  rw [e]
  show (L83_0 (n + 2) 0 [] (120 :: 120 :: r)).bind _ = _
  rw [h1]
  simp only [Option.bind_some]
  rw [h2]; rfl

theorem events_bad (n : Nat) (r : List UInt8) (xs : List Int) (hr : r.length < 100000) (hn : r.length + xs.length + 100 ≤ n) (hx : xs.length < 1000000) (hd : d8 (r.length + 2) (120 :: 120 :: r) = some xs) (hb : xs.any badC = true) : events n (120 :: 120 :: r) = some ([], (4, ())) := by
  unfold events
  rw [points_xx n r xs hr (by omega) hd]
  have h := read_loop xs xs 0 (by omega) xs 0 (n + 3) rfl hb (by omega)
  simp only [Option.bind_some]
  show (bif ((0 : Int) != 0) then _ else _) = _
  have z : ((0 : Int) != 0) = false := rfl
  rw [z, cond_false]
  refine (congrArg (fun q => Option.bind q _) h).trans ?_
  rfl
theorem load_bad (n : Nat) (r : List UInt8) (xs : List Int) (hr : r.length < 100000) (hn : r.length + xs.length + 100 ≤ n) (hx : xs.length < 1000000) (hd : d8 (r.length + 2) (120 :: 120 :: r) = some xs) (hb : xs.any badC = true) : load n (120 :: 120 :: r) ((1048576 : Int), ((200 : Int), (20000 : Int))) 2 = some (([], []), (4, ())) := by
  unfold load
  rw [events_bad n r xs hr hn hx hd hb]
  have z : ilt (bif ilt (1048576 : Int) (bif ilt (0 : Int) (1048576 : Int) then (1048576 : Int) else 0) then (1048576 : Int) else (bif ilt (0 : Int) (1048576 : Int) then (1048576 : Int) else 0)) (len ((120 : UInt8) :: 120 :: r)) = false := by
    have e : (bif ilt (1048576 : Int) (bif ilt (0 : Int) (1048576 : Int) then (1048576 : Int) else 0) then (1048576 : Int) else (bif ilt (0 : Int) (1048576 : Int) then (1048576 : Int) else 0)) = 1048576 := by decide
    rw [e]
    exact ilt_f (by simp only [len, List.length_cons]; omega)
  rw [z]
  rfl

/-- A text of signs. -/
def txB (x : UInt8) : Bool := bif x != (10 : UInt8) then (bif Nat.blt x.toNat 32 then Bool.true else Nat.blt 126 x.toNat) else Bool.false
theorem txt_loop (a b t : List UInt8) (c : Int) (ht : t.length < 1000000) : ∀ (r : List UInt8) (i n : Nat), t.drop i = r → r.length + 1 ≤ n → i ≤ t.length → L3_7 n a b c t (i : Int) = bif r.any txB then some (.inr ((Bool.true, ()), ())) else some (.inl ((a, (b, (c, ()))), ())) := by
  intro r
  induction r with
  | nil =>
    intro i n hr hn hi
    obtain ⟨n, rfl⟩ : ∃ k, n = k + 1 := ⟨n - 1, by omega⟩
    have hlen : t.length ≤ i := by simpa using hr
    simp only [L3_7, len, ilt_f (show (t.length : Int) ≤ i by omega), cond_false]
    rfl
  | cons x r ih =>
    intro i n hr hn hi
    obtain ⟨n, rfl⟩ : ∃ k, n = k + 1 := ⟨n - 1, by omega⟩
    have hlen : t.length = i + (r.length + 1) := by
      have := congrArg List.length hr
      simp at this; omega
    have hx : t[i]? = some x := by have := at_drop hr 0; simpa using this
    have hr2 : t.drop (i + 1) = r := by rw [← List.drop_drop, hr]; rfl
    have w : IntKind.wrap .i64 ((i : Int) + 1) = ((i + 1 : Nat) : Int) := by rw [wrap_id] <;> omega
    have e0 : (Int.toNat (i : Int)) = i := rfl
    have e32 : UInt8.toNat 32 = 32 := rfl
    have e126 : UInt8.toNat 126 = 126 := rfl
    simp only [L3_7, len, ilt_t (show (i : Int) < t.length by omega), ile_t (show (0 : Int) ≤ i by omega), cond_true, e0, hx, Option.bind_some, w, List.any_cons, txB, e32, e126]
    have rest := ih (i + 1) n hr2 (by simp at hn; omega) (by omega)
    cases (x != (10 : UInt8)) with
    | false => simp only [cond_false, Option.bind_some, Bool.false_or]; exact rest
    | true =>
      cases Nat.blt x.toNat 32 with
      | true => rfl
      | false =>
        cases Nat.blt 126 x.toNat with
        | true => rfl
        | false => simp only [cond_false, cond_true, Option.bind_some, Bool.false_or]; exact rest
theorem tx_lit {t : List UInt8} (h : t.any txB = false) : lit t := fun x hx => by
  have q := List.any_eq_false.1 h x hx
  by_cases h2 : x = 10
  · rw [h2]; decide
  · unfold txB at q
    rw [bne_iff_ne.2 h2] at q
    have u : ub x = (x.toNat : Int) := rfl
    cases h3 : Nat.blt x.toNat 32 with
    | true =>
      rw [Nat.blt_eq] at h3; omega
    | false =>
      cases h4 : Nat.blt 126 x.toNat with
      | true => simp [h3, h4] at q
      | false =>
        have : ¬ 126 < x.toNat := fun h5 => by
          have h6 : Nat.blt 126 x.toNat = true := by rw [Nat.blt_eq]; exact h5
          rw [h6] at h4; cases h4
        omega

theorem core (n : Nat) (a b : List UInt8) (c : Int) (hn : 5000 ≤ n) (h1 : 0 ≤ c) (h2 : c ≤ 1114111) (h3 : c < 55296 ∨ 57343 < c) (hbad : badC c = true) (ha : a.length ≤ 200) (hb : b.length ≤ 200) :
    (bif (room ((List.length a) + (List.length b))) then
          Option.bind (L3_7 (n + 8) a b c (a ++ b) (0 : Int)) fun y18 =>
          match y18 with
            | .inl y19 =>
              bif (room ((List.length ([(120 : UInt8), (120 : UInt8)] : List UInt8)) + (List.length y19.1.1))) then
              Option.bind (bytesR (n + 5) (y19.1.2.2.1 :: ([] : List Int))) fun y21 =>
              bif (room ((List.length (([(120 : UInt8), (120 : UInt8)] : List UInt8) ++ y19.1.1)) + (List.length y21.1))) then
              bif (room ((List.length ((([(120 : UInt8), (120 : UInt8)] : List UInt8) ++ y19.1.1) ++ y21.1)) + (List.length y19.1.2.1))) then
              Option.bind (load n (((([(120 : UInt8), (120 : UInt8)] : List UInt8) ++ y19.1.1) ++ y21.1) ++ y19.1.2.1) ((1048576 : Int), ((200 : Int), (20000 : Int))) (2 : Int)) fun y22 =>
              Option.bind (events (n + 1) (((([(120 : UInt8), (120 : UInt8)] : List UInt8) ++ y19.1.1) ++ y21.1) ++ y19.1.2.1)) fun y23 =>
              bif (y22.2.1 == (4 : Int)) then
                bif ((len y22.1.1) == (0 : Int)) then
                  bif (y23.2.1 == (4 : Int)) then
                    some (((len y23.1) == (0 : Int)), ())
                  else
                  some (Bool.false, ())
                else
                some (Bool.false, ())
              else
              some (Bool.false, ())
              else none
              else none
              else none
            | .inr y20 =>
              some (y20.1.1, ())
          else none) = some (Bool.true, ()) := by
  have hok : okc c = true := decide_eq_true ⟨h1, h2, h3⟩
  rw [roomle (by omega), cond_true]
  have hlp := txt_loop a b (a ++ b) c (by simp <;> omega) (a ++ b) 0 (n + 8) rfl (by simp <;> omega) (by omega)
  rw [show (0 : Int) = ((0 : Nat) : Int) from rfl, hlp]
  cases ht : (a ++ b).any txB with
  | true => rfl
  | false =>
    have hl := tx_lit ht
    have la : lit ((120 : UInt8) :: 120 :: a) := fun x hx => by
      rcases List.mem_cons.1 hx with e | hx
      · rw [e]; decide
      rcases List.mem_cons.1 hx with e | hx
      · rw [e]; decide
      exact hl x (List.mem_append_left _ hx)
    have lb : lit b := fun x hx => hl x (List.mem_append_right _ hx)
    have he := en_len c
    have hB : bytesR (n + 5) (c :: ([] : List Int)) = some (en c, ()) := by
      rw [bytesR_spec (n + 5) [c] (by simp) (by simp <;> omega)]
      simp [enL, fx, hok]
    simp only [cond_false, Option.bind_some, hB]
    rw [roomle (by simp <;> omega), roomle (by simp <;> omega), roomle (by simp <;> omega)]
    simp only [cond_true]
    have e : ((([(120 : UInt8), (120 : UInt8)] : List UInt8) ++ a) ++ en c) ++ b = 120 :: 120 :: (a ++ en c ++ b) := by simp
    have hd : d8 ((a ++ en c ++ b).length + 2) (120 :: 120 :: (a ++ en c ++ b)) = some (((120 : UInt8) :: 120 :: a).map ub ++ (c :: b.map ub)) := by
      have := d8_mid (120 :: 120 :: a) b c ((a ++ en c ++ b).length + 2) la lb hok (by simp <;> omega)
      simpa using this
    have hany : (((120 : UInt8) :: 120 :: a).map ub ++ (c :: b.map ub)).any badC = true := by
      rw [List.any_append, List.any_cons, hbad]; simp
    rw [e, load_bad n (a ++ en c ++ b) _ (by simp <;> omega) (by simp <;> omega) (by simp <;> omega) hd hany, events_bad (n + 1) (a ++ en c ++ b) _ (by simp <;> omega) (by simp <;> omega) (by simp <;> omega) hd hany]
    rfl
theorem lens (a b : List UInt8) (T : Option (Bool × Unit)) (h : a.length ≤ 200 → b.length ≤ 200 → T = some (Bool.true, ())) :
    (Option.bind (bif (Go.Iv.ilt (len a) (1 : Int)) then some Bool.true else bif (Go.Iv.ilt (200 : Int) (len a)) then some Bool.true else some (Go.Iv.ilt (200 : Int) (len b))) fun b2 => bif b2 then some (Bool.true, ()) else T) = some (Bool.true, ()) := by
  cases Go.Iv.ilt (len a) (1 : Int) with
  | true => rfl
  | false =>
    by_cases h1 : a.length ≤ 200
    · by_cases h2 : b.length ≤ 200
      · rw [h h1 h2, ilt_f (show len a ≤ 200 by simp only [len]; omega), ilt_f (show len b ≤ 200 by simp only [len]; omega)]; rfl
      · rw [ilt_t (show (200 : Int) < len b by simp only [len]; omega)]
        cases Go.Iv.ilt (200 : Int) (len a) <;> rfl
    · rw [ilt_t (show (200 : Int) < len a by simp only [len]; omega)]; rfl
theorem lens2 (q : Bool) (a b : List UInt8) (T : Option (Bool × Unit)) (h : q = false → a.length ≤ 200 → b.length ≤ 200 → T = some (Bool.true, ())) :
    (Option.bind (bif q then some Bool.true else bif (Go.Iv.ilt (len a) (1 : Int)) then some Bool.true else bif (Go.Iv.ilt (200 : Int) (len a)) then some Bool.true else some (Go.Iv.ilt (200 : Int) (len b))) fun b2 => bif b2 then some (Bool.true, ()) else T) = some (Bool.true, ()) := by
  cases q with
  | true => rfl
  | false => exact lens a b T (h rfl)

theorem loadChars_spec (n : Nat) (hn : 5000 ≤ n) (a b : List UInt8) (c : Int) (_ : Sh.wf .str a) (_ : Sh.wf .str b) (_ : Sh.wf (.int .i64) c) : loadChars n a b c = some (true, ()) := by
  unfold loadChars
  by_cases h1 : 0 ≤ c
  · rw [ile_t h1, cond_true]
    by_cases h2 : c ≤ 1114111
    · rw [ile_t h2, cond_true, printR_spec]
      simp only [Option.bind_some]
      by_cases h3 : c < 55296
      · rw [ilt_t h3, cond_true]
        cases hp : prB c with
        | false => exact lens a b _ (core n a b c hn h1 h2 (.inl h3) (by unfold badC; rw [hp]; rfl))
        | true =>
          refine lens2 _ a b _ fun hq => core n a b c hn h1 h2 (.inl h3) ?_
          have : (c == 65279) = true := by simpa using hq
          unfold badC; rw [this]; simp
      · rw [ilt_f (by omega), cond_false]
        by_cases h4 : 57343 < c
        · rw [ilt_t h4, cond_true]
          cases hp : prB c with
          | false => exact lens a b _ (core n a b c hn h1 h2 (.inr h4) (by unfold badC; rw [hp]; rfl))
          | true =>
            refine lens2 _ a b _ fun hq => core n a b c hn h1 h2 (.inr h4) ?_
            have : (c == 65279) = true := by simpa using hq
            unfold badC; rw [this]; simp
        · rw [ilt_f (by omega)]; rfl
    · rw [ile_f (by omega)]; rfl
  · rw [ile_f (by omega)]; rfl
end Go.Proofs.YtlakipkfmdbckaaGreatDoor

/- Functions whose answers are told: by the kit's contracts. -/
namespace Go.Proofs.YtlakipkfmdbckaaGreatDoor
open Go Go.Iv Go.Gv Go.Shelf Go.Proofs

theorem sp4 : Spec1 Tryz.prog 0 4 0 := spec_true alive_ok
theorem specs_ok : SpecOK Tryz.prog (gspec hint) := gspec_ok (show SpecsOK Tryz.prog specL from ⟨sp4, trivial⟩)
end Go.Proofs.YtlakipkfmdbckaaGreatDoor
