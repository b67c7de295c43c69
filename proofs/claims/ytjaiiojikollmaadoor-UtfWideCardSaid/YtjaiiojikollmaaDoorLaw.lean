/- Law 1: forms. -/
import Derived.Test.YtjaiiojikollmaaDoorFa
import Derived.Test.YtjaiiojikollmaaDoorGvPlain
set_option linter.unusedSimpArgs false
set_option linter.unusedVariables false
namespace Go.Proofs.YtjaiiojikollmaaDoor
open Go Go.Iv Go.Gv

theorem ub_ne (x : UInt8) (k : Nat) (h : k < 256) : (IntKind.wrap .i64 (ub x) != (k : Int)) = !(x == UInt8.ofNat k) := by
  rw [ub_wrap, Bool.eq_iff_iff]
  simp only [bne_iff_ne, ne_eq, Bool.not_eq_true', beq_eq_false_iff_ne]
  constructor
  · intro hh e; subst e
    apply hh
    unfold ub
    rw [UInt8.toNat_ofNat']
    omega
  · intro hh e
    apply hh
    apply UInt8.toNat_inj.1
    rw [UInt8.toNat_ofNat']
    unfold ub at e
    omega

/-- Does a list begin so? -/
def pre : List UInt8 → List UInt8 → Bool
  | [], _ => true
  | _ :: _, [] => false
  | a :: r, b :: s => (a == b) && pre r s

theorem L25_4_spec (b l : List UInt8) : ∀ (k n : Nat) (l' b' : List UInt8) (i : Nat), l'.length = k → l.drop i = l' → b.drop i = b' → l.length ≤ b.length → l.length < 1000 → k < n →
    L25_4 n b l (i : Int) = bif pre l' b' then some (.inl ((), ())) else some (.inr ((false, ()), ())) := by
  intro k
  induction k with
  | zero =>
    intro n l' b' i hk hl hb hle hs hn
    obtain ⟨n, rfl⟩ : ∃ m, n = m + 1 := ⟨n - 1, by omega⟩
    have : l' = [] := List.length_eq_zero_iff.1 hk
    subst this
    have : l.length ≤ i := by simpa using hl
    simp only [L25_4, len, ilt_f (show (l.length : Int) ≤ i by omega), cond_false, pre, cond_true]
  | succ k ih =>
    intro n l' b' i hk hl hb hle hs hn
    obtain ⟨n, rfl⟩ : ∃ m, n = m + 1 := ⟨n - 1, by omega⟩
    have h1 : i < l.length := by
      have := congrArg List.length hl; simp at this; omega
    have h2 : i < b.length := by omega
    rw [List.drop_eq_getElem_cons h1] at hl
    rw [List.drop_eq_getElem_cons h2] at hb
    subst hl hb
    have e1 : l[(Int.toNat (i : Int))]? = some l[i] := by simp
    have e2 : b[(Int.toNat (i : Int))]? = some b[i] := by simp
    have e3 : Go.IntKind.wrap Go.IntKind.i64 ((i : Int) + 1) = ((i + 1 : Nat) : Int) := by rw [wrap_id] <;> omega
    simp only [L25_4, len, ilt_t (show (i : Int) < l.length by omega), ile_t (show (0 : Int) ≤ i by omega), cond_true, e1, e2, e3, Option.bind_some, pre]
    cases h : b[i] != l[i] with
    | true =>
      have : (l[i] == b[i]) = false := by
        rw [beq_eq_false_iff_ne]; intro e; rw [e] at h; simp at h
      simp [this]
    | false =>
      have : (l[i] == b[i]) = true := by
        simp at h; simp [h]
      rw [this, cond_false, ih n _ _ (i + 1) (by simp at hk ⊢; omega) rfl rfl hle hs (by omega), Bool.true_and]

theorem pre_len : ∀ {l b : List UInt8}, b.length < l.length → pre l b = false
  | [], _, h => by simp at h
  | _ :: _, [], _ => rfl
  | _ :: r, _ :: s, h => by simp only [pre, pre_len (l := r) (b := s) (by simpa using h), Bool.and_false]

theorem isR_spec (n : Nat) (b l : List UInt8) (h1 : l.length < 1000) (hn : l.length < n + 1) : isR n b l = some (pre l b, ()) := by
  unfold isR
  by_cases h : b.length < l.length
  · simp only [len, ilt_t (show (b.length : Int) < l.length by omega), cond_true, pre_len h]
  · have := L25_4_spec b l l.length (n + 1) l b 0 rfl rfl rfl (by omega) h1 hn
    simp only [len, ilt_f (show (l.length : Int) ≤ b.length by omega), cond_false]
    rw [show (0 : Int) = ((0 : Nat) : Int) from rfl, this]
    cases pre l b <;> rfl

/-- The form. -/
def t4 (a b c d : Bool) : Int × Int :=
  bif a && b && c && !d then (4, 0) else bif !a && b && c && d then (5, 0) else bif a && !b then (2, 0) else bif !a && b then (3, 0) else (1, 0)
def t2 (a b : Bool) : Int × Int := bif a && !b then (2, 0) else bif !a && b then (3, 0) else (1, 0)
def tl : List UInt8 → Int × Int
  | a :: b :: c :: d :: _ => t4 (a == 0) (b == 0) (c == 0) (d == 0)
  | [a, b] => t2 (a == 0) (b == 0)
  | [a, b, _] => t2 (a == 0) (b == 0)
  | _ => (1, 0)
def frm (l : List UInt8) : Int × Int :=
  bif pre [0, 0, 254, 255] l then (4, 4) else bif pre [255, 254, 0, 0] l then (5, 4) else bif pre [254, 255] l then (2, 2) else bif pre [255, 254] l then (3, 2) else bif pre [239, 187, 191] l then (1, 3) else tl l

theorem formR_spec (n : Nat) (b : List UInt8) (hn : 10 ≤ n) : formR n b = some ((frm b).1, (frm b).2, ()) := by
  unfold formR frm
  rw [isR_spec n b [0, 0, 254, 255] (by decide) (by simp; omega), isR_spec n b [255, 254, 0, 0] (by decide) (by simp; omega), isR_spec n b [254, 255] (by decide) (by simp; omega), isR_spec n b [255, 254] (by decide) (by simp; omega), isR_spec n b [239, 187, 191] (by decide) (by simp; omega)]
  simp only [Option.bind_some]
  cases pre [0, 0, 254, 255] b <;> simp only [cond_true, cond_false]
  cases pre [255, 254, 0, 0] b <;> simp only [cond_true, cond_false]
  cases pre [254, 255] b <;> simp only [cond_true, cond_false]
  cases pre [255, 254] b <;> simp only [cond_true, cond_false]
  cases pre [239, 187, 191] b <;> simp only [cond_true, cond_false]
  match b with
  | [] => rfl
  | [a] => simp [len, ilt_eq, tl]
  | [a, b] =>
    simp only [len, ilt_eq, tl, bne, List.length_cons, List.length_nil, List.getElem?_cons_zero, List.getElem?_cons_succ, Option.bind_some]
    generalize (a == 0) = p
    generalize (b == 0) = q
    cases p <;> cases q <;> rfl
  | [a, b, c] =>
    simp only [len, ilt_eq, tl, bne, List.length_cons, List.length_nil, List.getElem?_cons_zero, List.getElem?_cons_succ, Option.bind_some]
    generalize (a == 0) = p
    generalize (b == 0) = q
    generalize (c == 0) = r
    cases p <;> cases q <;> cases r <;> rfl
  | a :: b :: c :: d :: l =>
    simp only [len, ilt_t (show (3 : Int) < ((a :: b :: c :: d :: l).length : Nat) by simp; omega), ilt_t (show (1 : Int) < ((a :: b :: c :: d :: l).length : Nat) by simp; omega), tl, bne, List.getElem?_cons_zero, List.getElem?_cons_succ, Option.bind_some, cond_true]
    generalize (a == 0) = p
    generalize (b == 0) = q
    generalize (c == 0) = r
    generalize (d == 0) = s
    cases p <;> cases q <;> cases r <;> cases s <;> rfl
end Go.Proofs.YtjaiiojikollmaaDoor

/- Law 1: the program's forms. -/
namespace Go.Proofs.YtjaiiojikollmaaDoor
open Go Go.Iv Go.Gv

def ft (p : Int) : Option UInt8 → Bool
  | none => p == -2
  | some x => bif p == -2 then true else bif (p == -1) && (x == 0) then false else bif ile 0 p then !(IntKind.wrap .i64 (ub x) != p) else true

theorem fstep (n : Nat) (b : List UInt8) (p0 p1 p2 p3 : Int) (i : Nat) (hi : i < 4) (p : Int) (hp : [p0, p1, p2, p3][i]? = some p) (c0 c1 c2 c3 c4 c5 : Int) :
    L24_2 (n + 1) b p0 p1 p2 p3 (i : Int) c0 c1 c2 c3 c4 c5 = bif ft p b[i]? then L24_2 n b p0 p1 p2 p3 ((i + 1 : Nat) : Int) c0 c1 c2 c3 c4 c5 else some (.inr ((false, ()), ((c0, (c1, (c2, (c3, (c4, (c5, ())))))), ()))) := by
  have w : IntKind.wrap .i64 ((i : Int) + 1) = ((i + 1 : Nat) : Int) := by rw [wrap_id] <;> omega
  have hc : i = 0 ∨ i = 1 ∨ i = 2 ∨ i = 3 := by omega
  have e0 : (Int.toNat (i : Int)) = i := rfl
  have z : Go.Iv.ile (0 : Int) (i : Int) = true := ile_t (by omega)
  simp only [L24_2, w, e0, z, cond_true, ilt_t (show (i : Int) < 4 by omega)]
  cases h : b[i]? with
  | none =>
    have : b.length ≤ i := List.getElem?_eq_none_iff.1 h
    simp only [len, ile_t (show (b.length : Int) ≤ i by omega), cond_true, ft]
    rcases hc with rfl | rfl | rfl | rfl <;> cases hp <;> rfl
  | some x =>
    have hlt : i < b.length := (List.getElem?_eq_some_iff.1 h).1
    simp only [len, ile_f (show (i : Int) < b.length by omega), cond_false, ft, Option.bind_some]
    generalize (IntKind.wrap .i64 (ub x)) = u
    rcases hc with rfl | rfl | rfl | rfl <;> cases hp
    · cases p0 == -2 <;> cases p0 == -1 <;> cases x == 0 <;> cases ile 0 p0 <;> cases u != p0 <;> rfl
    · cases p1 == -2 <;> cases p1 == -1 <;> cases x == 0 <;> cases ile 0 p1 <;> cases u != p1 <;> rfl
    · cases p2 == -2 <;> cases p2 == -1 <;> cases x == 0 <;> cases ile 0 p2 <;> cases u != p2 <;> rfl
    · cases p3 == -2 <;> cases p3 == -1 <;> cases x == 0 <;> cases ile 0 p3 <;> cases u != p3 <;> rfl

theorem fits_spec (n : Nat) (b : List UInt8) (a k p0 p1 p2 p3 : Int) (hn : 10 ≤ n) : fits n (a, k, p0, p1, p2, p3) b = some (ft p0 b[0]? && (ft p1 b[1]? && (ft p2 b[2]? && ft p3 b[3]?)), ()) := by
  obtain ⟨n, rfl⟩ : ∃ m, n = m + 10 := ⟨n - 10, by omega⟩
  unfold fits
  simp only []
  rw [show (0 : Int) = ((0 : Nat) : Int) from rfl, fstep (n + 10) b p0 p1 p2 p3 0 (by omega) p0 rfl]
  cases ft p0 b[0]? <;> simp only [cond_true, cond_false, Bool.false_and, Bool.true_and]
  · rfl
  rw [fstep (n + 9) b p0 p1 p2 p3 1 (by omega) p1 rfl]
  cases ft p1 b[1]? <;> simp only [cond_true, cond_false, Bool.false_and, Bool.true_and]
  · rfl
  rw [fstep (n + 8) b p0 p1 p2 p3 2 (by omega) p2 rfl]
  cases ft p2 b[2]? <;> simp only [cond_true, cond_false, Bool.false_and, Bool.true_and]
  · rfl
  rw [fstep (n + 7) b p0 p1 p2 p3 3 (by omega) p3 rfl]
  cases ft p3 b[3]? <;> simp only [cond_true, cond_false, Bool.false_and, Bool.true_and]
  · rfl
  · simp only [L24_2, ilt_f (show (4 : Int) ≤ ((3 + 1 : Nat) : Int) by decide), cond_false]
    rfl

theorem ft_lit (k : Nat) (h : k < 256) (x : UInt8) : ft (k : Int) (some x) = (x == UInt8.ofNat k) := by
  have e1 : ((k : Int) == -2) = false := by rw [beq_eq_false_iff_ne]; omega
  have e2 : ((k : Int) == -1) = false := by rw [beq_eq_false_iff_ne]; omega
  simp only [ft, e1, e2, Bool.false_and, cond_false, ile_t (show (0 : Int) ≤ k by omega), cond_true, ub_ne x k h, Bool.not_not]
theorem ft_nolit (k : Nat) : ft (k : Int) none = false := by
  have e1 : ((k : Int) == -2) = false := by rw [beq_eq_false_iff_ne]; omega
  exact e1
theorem ft_none (x : Option UInt8) : ft (-2) x = true := by
  cases x <;> rfl
theorem ft_some (x : UInt8) : ft (-1) (some x) = !(x == 0) := by
  show (bif true && (x == 0) then false else true) = _
  cases x == 0 <;> rfl
theorem ft_no : ft (-1) none = false := rfl

theorem rstep (n : Nat) (b : List UInt8) (rs : List (Int × Int × Int × Int × Int × Int)) (m : Int) (i : Nat) (hn : 10 ≤ n) (r : Int × Int × Int × Int × Int × Int) (hr : rs[i]? = some r) (hm : (i : Int) < m) (h9 : i < 100) :
    L11_2 (n + 1) b rs m (i : Int) = bif ft r.2.2.1 b[0]? && (ft r.2.2.2.1 b[1]? && (ft r.2.2.2.2.1 b[2]? && ft r.2.2.2.2.2 b[3]?)) then some (.inr ((r.1, (r.2.1, ())), ())) else L11_2 n b rs m ((i + 1 : Nat) : Int) := by
  have w : IntKind.wrap .i64 ((i : Int) + 1) = ((i + 1 : Nat) : Int) := by rw [wrap_id] <;> omega
  have hl : i < rs.length := (List.getElem?_eq_some_iff.1 hr).1
  have e0 : (Int.toNat (i : Int)) = i := rfl
  simp only [L11_2, w, e0, ile_t (show (0 : Int) ≤ i by omega), len, ilt_t hm, ilt_t (show (i : Int) < rs.length by omega), Bool.and_self, cond_true, hr, Option.bind_some]
  rw [fits_spec (n + 1) b _ _ _ _ _ _ (by omega)]
  rfl

theorem p4 (b : List UInt8) (x y z w : Nat) (hx : x < 256) (hy : y < 256) (hz : z < 256) (hw : w < 256) : (ft (x : Int) b[0]? && (ft (y : Int) b[1]? && (ft (z : Int) b[2]? && ft (w : Int) b[3]?))) = pre [UInt8.ofNat x, UInt8.ofNat y, UInt8.ofNat z, UInt8.ofNat w] b := by
  match b with
  | [] => simp only [List.getElem?_nil, ft_nolit, pre, Bool.false_and]
  | [a] => simp only [List.getElem?_nil, List.getElem?_cons_zero, List.getElem?_cons_succ, ft_nolit, ft_lit _ hx, pre, Bool.false_and, Bool.and_false]
  | [a, b] => simp only [List.getElem?_nil, List.getElem?_cons_zero, List.getElem?_cons_succ, ft_nolit, pre, Bool.false_and, Bool.and_false]
  | [a, b, c] => simp only [List.getElem?_nil, List.getElem?_cons_zero, List.getElem?_cons_succ, ft_nolit, pre, Bool.and_false]
  | a :: b :: c :: d :: r => 
    simp only [List.getElem?_cons_zero, List.getElem?_cons_succ, ft_lit _ hx, ft_lit _ hy, ft_lit _ hz, ft_lit _ hw, pre, Bool.and_true]
    rw [BEq.comm (a := a), BEq.comm (a := b), BEq.comm (a := c), BEq.comm (a := d)]
theorem p2 (b : List UInt8) (x y : Nat) (hx : x < 256) (hy : y < 256) : (ft (x : Int) b[0]? && (ft (y : Int) b[1]? && (ft (-2) b[2]? && ft (-2) b[3]?))) = pre [UInt8.ofNat x, UInt8.ofNat y] b := by
  match b with
  | [] => simp only [List.getElem?_nil, ft_nolit, pre, Bool.false_and]
  | [a] => simp only [List.getElem?_nil, List.getElem?_cons_zero, List.getElem?_cons_succ, ft_nolit, pre, Bool.false_and, Bool.and_false]
  | a :: b :: r => 
    simp only [List.getElem?_cons_zero, List.getElem?_cons_succ, ft_lit _ hx, ft_lit _ hy, ft_none, pre, Bool.and_true]
    rw [BEq.comm (a := a), BEq.comm (a := b)]
theorem p3 (b : List UInt8) (x y z : Nat) (hx : x < 256) (hy : y < 256) (hz : z < 256) : (ft (x : Int) b[0]? && (ft (y : Int) b[1]? && (ft (z : Int) b[2]? && ft (-2) b[3]?))) = pre [UInt8.ofNat x, UInt8.ofNat y, UInt8.ofNat z] b := by
  match b with
  | [] => simp only [List.getElem?_nil, ft_nolit, pre, Bool.false_and]
  | [a] => simp only [List.getElem?_nil, List.getElem?_cons_zero, List.getElem?_cons_succ, ft_nolit, pre, Bool.false_and, Bool.and_false]
  | [a, b] => simp only [List.getElem?_nil, List.getElem?_cons_zero, List.getElem?_cons_succ, ft_nolit, pre, Bool.false_and, Bool.and_false]
  | a :: b :: c :: r => 
    simp only [List.getElem?_cons_zero, List.getElem?_cons_succ, ft_lit _ hx, ft_lit _ hy, ft_lit _ hz, ft_none, pre, Bool.and_true]
    rw [BEq.comm (a := a), BEq.comm (a := b), BEq.comm (a := c)]

def rws : List (Int × Int × Int × Int × Int × Int) := [(4, 4, 0, 0, 254, 255), (5, 4, 255, 254, 0, 0), (2, 2, 254, 255, -2, -2), (3, 2, 255, 254, -2, -2), (1, 3, 239, 187, 191, -2), (4, 0, 0, 0, 0, -1), (5, 0, -1, 0, 0, 0), (2, 0, 0, -1, -2, -2), (3, 0, -1, 0, -2, -2)]

theorem tl_eq (b : List UInt8) : tl b = bif (ft 0 b[0]? && (ft 0 b[1]? && (ft 0 b[2]? && ft (-1) b[3]?))) then (4, 0) else bif (ft (-1) b[0]? && (ft 0 b[1]? && (ft 0 b[2]? && ft 0 b[3]?))) then (5, 0) else bif (ft 0 b[0]? && (ft (-1) b[1]? && (ft (-2) b[2]? && ft (-2) b[3]?))) then (2, 0) else
    bif (ft (-1) b[0]? && (ft 0 b[1]? && (ft (-2) b[2]? && ft (-2) b[3]?))) then (3, 0) else (1, 0) := by
  have f0 : ∀ x : UInt8, ft 0 (some x) = (x == 0) := fun x => ft_lit 0 (by decide) x
  have n0 : ft 0 none = false := rfl
  match b with
  | [] => rfl
  | [a] =>
    simp only [List.getElem?_nil, List.getElem?_cons_zero, List.getElem?_cons_succ, f0, n0, ft_none, ft_some, ft_no, tl]
    cases a == 0 <;> rfl
  | [a, b] =>
    simp only [List.getElem?_nil, List.getElem?_cons_zero, List.getElem?_cons_succ, f0, n0, ft_none, ft_some, ft_no, tl]
    cases a == 0 <;> cases b == 0 <;> rfl
  | [a, b, c] =>
    simp only [List.getElem?_nil, List.getElem?_cons_zero, List.getElem?_cons_succ, f0, n0, ft_none, ft_some, ft_no, tl]
    cases a == 0 <;> cases b == 0 <;> cases c == 0 <;> rfl
  | a :: b :: c :: d :: r =>
    simp only [List.getElem?_cons_zero, List.getElem?_cons_succ, f0, ft_none, ft_some, tl]
    cases a == 0 <;> cases b == 0 <;> cases c == 0 <;> cases d == 0 <;> rfl

theorem form_spec (n : Nat) (b : List UInt8) (hn : 30 ≤ n) : form n b = some ((frm b).1, (frm b).2, ()) := by
  obtain ⟨n, rfl⟩ : ∃ m, n = m + 30 := ⟨n - 30, by omega⟩
  have c1 : (ft 0 b[0]? && (ft 0 b[1]? && (ft 254 b[2]? && ft 255 b[3]?))) = pre [0, 0, 254, 255] b := p4 b 0 0 254 255 (by decide) (by decide) (by decide) (by decide)
  have c2 : (ft 255 b[0]? && (ft 254 b[1]? && (ft 0 b[2]? && ft 0 b[3]?))) = pre [255, 254, 0, 0] b := p4 b 255 254 0 0 (by decide) (by decide) (by decide) (by decide)
  have c3 : (ft 254 b[0]? && (ft 255 b[1]? && (ft (-2) b[2]? && ft (-2) b[3]?))) = pre [254, 255] b := p2 b 254 255 (by decide) (by decide)
  have c4 : (ft 255 b[0]? && (ft 254 b[1]? && (ft (-2) b[2]? && ft (-2) b[3]?))) = pre [255, 254] b := p2 b 255 254 (by decide) (by decide)
  have c5 : (ft 239 b[0]? && (ft 187 b[1]? && (ft 191 b[2]? && ft (-2) b[3]?))) = pre [239, 187, 191] b := p3 b 239 187 191 (by decide) (by decide) (by decide)
  unfold form frm
  rw [tl_eq b]
  show (L11_2 (n + 30) b rws 9 ((0 : Nat) : Int)).bind _ = _
  rw [rstep (n + 29) b rws 9 0 (by omega) _ rfl (by decide) (by decide)]
  simp only [c1]
  cases pre [0, 0, 254, 255] b <;> simp only [cond_true, cond_false, Option.bind_some]
  rw [rstep (n + 28) b rws 9 1 (by omega) _ rfl (by decide) (by decide)]
  simp only [c2]
  cases pre [255, 254, 0, 0] b <;> simp only [cond_true, cond_false, Option.bind_some]
  rw [rstep (n + 27) b rws 9 2 (by omega) _ rfl (by decide) (by decide)]
  simp only [c3]
  cases pre [254, 255] b <;> simp only [cond_true, cond_false, Option.bind_some]
  rw [rstep (n + 26) b rws 9 3 (by omega) _ rfl (by decide) (by decide)]
  simp only [c4]
  cases pre [255, 254] b <;> simp only [cond_true, cond_false, Option.bind_some]
  rw [rstep (n + 25) b rws 9 4 (by omega) _ rfl (by decide) (by decide)]
  simp only [c5]
  cases pre [239, 187, 191] b <;> simp only [cond_true, cond_false, Option.bind_some]
  rw [rstep (n + 24) b rws 9 5 (by omega) _ rfl (by decide) (by decide)]
  simp only []
  cases (ft 0 b[0]? && (ft 0 b[1]? && (ft 0 b[2]? && ft (-1) b[3]?))) <;> simp only [cond_true, cond_false, Option.bind_some]
  rw [rstep (n + 23) b rws 9 6 (by omega) _ rfl (by decide) (by decide)]
  simp only []
  cases (ft (-1) b[0]? && (ft 0 b[1]? && (ft 0 b[2]? && ft 0 b[3]?))) <;> simp only [cond_true, cond_false, Option.bind_some]
  rw [rstep (n + 22) b rws 9 7 (by omega) _ rfl (by decide) (by decide)]
  simp only []
  cases (ft 0 b[0]? && (ft (-1) b[1]? && (ft (-2) b[2]? && ft (-2) b[3]?))) <;> simp only [cond_true, cond_false, Option.bind_some]
  rw [rstep (n + 21) b rws 9 8 (by omega) _ rfl (by decide) (by decide)]
  simp only []
  cases (ft (-1) b[0]? && (ft 0 b[1]? && (ft (-2) b[2]? && ft (-2) b[3]?))) <;> simp only [cond_true, cond_false, Option.bind_some]
  simp only [L11_2, ilt_f (show (9 : Int) ≤ ((8 + 1 : Nat) : Int) by decide), cond_false, Option.bind_some]
end Go.Proofs.YtjaiiojikollmaaDoor

/- Law 1: numbers of bytes. -/
namespace Go.Proofs.YtjaiiojikollmaaDoor
open Go Go.Iv Go.Gv

def num2 (g : Bool) (a b : UInt8) : Int := bif g then ub a * 256 + ub b else ub a + ub b * 256
def num4 (g : Bool) (a b c d : UInt8) : Int := bif g then ((ub a * 256 + ub b) * 256 + ub c) * 256 + ub d else ub a + ub b * 256 + ub c * 65536 + ub d * 16777216

theorem unitStep (n : Nat) (g : Bool) (l : List UInt8) (i : Nat) (acc : Int) (x y : UInt8) (h1 : l[i]? = some x) (h2 : l[l.length - 1 - i]? = some y) (h3 : 0 ≤ acc) (h4 : acc < 1099511627776) (hl : l.length < 1000) :
    L35_3 (n + 1) l g acc (len l) (i : Int) = L35_3 n l g (acc * 256 + ub (bif g then x else y)) (len l) ((i + 1 : Nat) : Int) := by
  have hi : i < l.length := (List.getElem?_eq_some_iff.1 h1).1
  have hx := ub_lt x
  have hy := ub_lt y
  have w : IntKind.wrap .i64 ((i : Int) + 1) = ((i + 1 : Nat) : Int) := by rw [wrap_id] <;> omega
  have w2 : IntKind.wrap .i64 (IntKind.wrap .i64 ((l.length : Int) - 1) - (i : Int)) = ((l.length - 1 - i : Nat) : Int) := by
    rw [wrap_id (x := (l.length : Int) - 1) (by omega) (by omega), wrap_id] <;> omega
  have e0 : (Int.toNat (i : Int)) = i := rfl
  have e1 : (Int.toNat ((l.length - 1 - i : Nat) : Int)) = l.length - 1 - i := rfl
  conv => lhs; unfold L35_3
  simp only [len, w, w2, e0, e1, h1, h2, ilt_t (show (i : Int) < l.length by omega), ile_t (show (0 : Int) ≤ i by omega), ile_t (show (0 : Int) ≤ ((l.length - 1 - i : Nat) : Int) by omega), cond_true, Option.bind_some, ub_wrap, shl8 h3 (show acc < 36028797018963968 by omega), orHi8 h3 (show acc < 36028797018963968 by omega) hx.1 hx.2, orHi8 h3 (show acc < 36028797018963968 by omega) hy.1 hy.2]
  cases g <;> rfl

theorem unitEnd (n : Nat) (g : Bool) (l : List UInt8) (acc : Int) : L35_3 (n + 1) l g acc (len l) (l.length : Int) = some ((acc, ()), ()) := by
  simp only [L35_3, len, ilt_f (show (l.length : Int) ≤ l.length by omega), cond_false]

theorem unit2 (n : Nat) (g : Bool) (a b : UInt8) (hn : 4 ≤ n) : unit n [a, b] g = some (num2 g a b, ()) := by
  obtain ⟨n, rfl⟩ : ∃ m, n = m + 4 := ⟨n - 4, by omega⟩
  have h1 := ub_lt (bif g then a else b)
  unfold unit
  have s0 := unitStep (n + 4) g [a, b] 0 0 a b rfl rfl (by omega) (by omega) (by simp)
  have s1 := unitStep (n + 3) g [a, b] 1 (0 * 256 + ub (bif g then a else b)) b a rfl rfl (by omega) (by omega) (by simp)
  have s2 := unitEnd (n + 2) g [a, b] ((0 * 256 + ub (bif g then a else b)) * 256 + ub (bif g then b else a))
  refine (congrArg (fun z => Option.bind z _) (s0.trans (s1.trans s2))).trans ?_
  show some (_, ()) = _
  congr 2
  cases g <;> simp only [num2, cond_true, cond_false] <;> omega

theorem unit4 (n : Nat) (g : Bool) (a b c d : UInt8) (hn : 6 ≤ n) : unit n [a, b, c, d] g = some (num4 g a b c d, ()) := by
  obtain ⟨n, rfl⟩ : ∃ m, n = m + 6 := ⟨n - 6, by omega⟩
  have h1 := ub_lt (bif g then a else d)
  have h2 := ub_lt (bif g then b else c)
  have h3 := ub_lt (bif g then c else b)
  unfold unit
  have s0 := unitStep (n + 6) g [a, b, c, d] 0 0 a d rfl rfl (by omega) (by omega) (by simp)
  have s1 := unitStep (n + 5) g [a, b, c, d] 1 (0 * 256 + ub (bif g then a else d)) b c rfl rfl (by omega) (by omega) (by simp)
  have s2 := unitStep (n + 4) g [a, b, c, d] 2 ((0 * 256 + ub (bif g then a else d)) * 256 + ub (bif g then b else c)) c b rfl rfl (by omega) (by omega) (by simp)
  have s3 := unitStep (n + 3) g [a, b, c, d] 3 (((0 * 256 + ub (bif g then a else d)) * 256 + ub (bif g then b else c)) * 256 + ub (bif g then c else b)) d a rfl rfl (by omega) (by omega) (by simp)
  have s4 := unitEnd (n + 2) g [a, b, c, d] ((((0 * 256 + ub (bif g then a else d)) * 256 + ub (bif g then b else c)) * 256 + ub (bif g then c else b)) * 256 + ub (bif g then d else a))
  refine (congrArg (fun z => Option.bind z _) (s0.trans (s1.trans (s2.trans (s3.trans s4))))).trans ?_
  show some (_, ()) = _
  congr 2
  cases g <;> simp only [num4, cond_true, cond_false] <;> omega

/-! The document's. -/
theorem uRstep (n : Nat) (b : List UInt8) (size : Int) (g : Bool) (o : List Int) (i k : Nat) (acc : Int) (x : UInt8) (h1 : b[i + k]? = some x) (hk : (k : Int) < size) (hk7 : k < 7) (hi : i < 4194304) (h3 : 0 ≤ acc) (h4 : acc < 2 ^ (8 * k)) (h5 : acc < 1099511627776) :
    L20_7_65 (n + 1) b size g o (i : Int) acc (k : Int) = L20_7_65 n b size g o (i : Int) (bif g then acc * 256 + ub x else acc + ub x * 2 ^ (8 * k)) ((k + 1 : Nat) : Int) := by
  have hx := ub_lt x
  have w : IntKind.wrap .i64 ((k : Int) + 1) = ((k + 1 : Nat) : Int) := by rw [wrap_id] <;> omega
  have w2 : IntKind.wrap .i64 ((i : Int) + k) = ((i + k : Nat) : Int) := by rw [wrap_id] <;> omega
  have w3 : IntKind.wrap .u64 (IntKind.wrap .i64 (8 * (k : Int))) = ((8 * k : Nat) : Int) := by rw [wrap_id (by omega) (by omega), wraps_u64] <;> omega
  have e0 : (Int.toNat ((i + k : Nat) : Int)) = i + k := rfl
  have e1 : (Int.toNat ((8 * k : Nat) : Int)) = 8 * k := rfl
  conv => lhs; unfold L20_7_65
  simp only [w, w2, w3, e0, e1, h1, ilt_t hk, ile_t (show (0 : Int) ≤ ((i + k : Nat) : Int) by omega), ile_t (show (0 : Int) ≤ ((8 * k : Nat) : Int) by omega), cond_true, Option.bind_some, ub_wrap, shl8 h3 (show acc < 36028797018963968 by omega), orHi8 h3 (show acc < 36028797018963968 by omega) hx.1 hx.2]
  cases g
  · have hp : (2 : Int) ^ (8 * k) ≤ 2 ^ 48 := by
      have := Nat.pow_le_pow_right (show 0 < 2 by decide) (show 8 * k ≤ 48 by omega)
      exact_mod_cast this
    have hp0 : (0 : Int) < 2 ^ (8 * k) := Int.pow_pos (by decide)
    have hm : ub x * 2 ^ (8 * k) ≤ 255 * 2 ^ 48 := Int.le_trans (Int.mul_le_mul_of_nonneg_right (show ub x ≤ 255 by omega) (Int.le_of_lt hp0)) (Int.mul_le_mul_of_nonneg_left hp (by decide))
    have hm0 : 0 ≤ ub x * 2 ^ (8 * k) := Int.mul_nonneg hx.1 (Int.le_of_lt hp0)
    simp only [cond_false]
    rw [shlI_i64 (ub x) (8 * k) (by omega) (by omega) (by omega), orLo (by omega) h3 h4 hm0 (by omega)]
  · rfl

theorem uRend (n : Nat) (b : List UInt8) (size : Int) (g : Bool) (o : List Int) (i : Int) (acc k : Int) (hk : size ≤ k) : L20_7_65 (n + 1) b size g o i acc k = some ((b, (size, (g, (o, (i, (acc, ())))))), ()) := by
  simp only [L20_7_65, ilt_f hk, cond_false]

theorem uR2 (n : Nat) (b : List UInt8) (g : Bool) (o : List Int) (i : Nat) (x y : UInt8) (h0 : b[i]? = some x) (h1 : b[i + 1]? = some y) (hi : i < 4194304) (hn : 4 ≤ n) : L20_7_65 n b 2 g o (i : Int) 0 0 = some ((b, (2, (g, (o, ((i : Int), (num2 g x y, ())))))), ()) := by
  obtain ⟨n, rfl⟩ : ∃ m, n = m + 4 := ⟨n - 4, by omega⟩
  have hx := ub_lt x
  have s0 := uRstep (n + 3) b 2 g o i 0 0 x h0 (by decide) (by decide) hi (by decide) (by decide) (by decide)
  have s1 := uRstep (n + 2) b 2 g o i 1 (ub x) y h1 (by decide) (by decide) hi hx.1 (by omega) (by omega)
  have s2 := uRend (n + 1) b 2 g o (i : Int) (num2 g x y) 2 (by decide)
  refine s0.trans ?_
  have e0 : (bif g then 0 * 256 + ub x else 0 + ub x * 2 ^ (8 * 0)) = ub x := by cases g <;> simp only [cond_true, cond_false] <;> omega
  have e1 : (bif g then ub x * 256 + ub y else ub x + ub y * 2 ^ (8 * 1)) = num2 g x y := by cases g <;> simp only [cond_true, cond_false, num2] <;> omega
  rw [e0]
  refine s1.trans ?_
  rw [e1]
  exact s2

theorem uR4 (n : Nat) (b : List UInt8) (g : Bool) (o : List Int) (i : Nat) (x y z w : UInt8) (h0 : b[i]? = some x) (h1 : b[i + 1]? = some y) (h2 : b[i + 2]? = some z) (h3 : b[i + 3]? = some w) (hi : i < 4194304) (hn : 6 ≤ n) :
    L20_7_65 n b 4 g o (i : Int) 0 0 = some ((b, (4, (g, (o, ((i : Int), (num4 g x y z w, ())))))), ()) := by
  obtain ⟨n, rfl⟩ : ∃ m, n = m + 6 := ⟨n - 6, by omega⟩
  have hx := ub_lt x
  have hy := ub_lt y
  have hz := ub_lt z
  have s0 := uRstep (n + 5) b 4 g o i 0 0 x h0 (by decide) (by decide) hi (by decide) (by decide) (by decide)
  have s1 := uRstep (n + 4) b 4 g o i 1 (ub x) y h1 (by decide) (by decide) hi hx.1 (by omega) (by omega)
  have s2 := uRstep (n + 3) b 4 g o i 2 (bif g then ub x * 256 + ub y else ub x + ub y * 256) z h2 (by decide) (by decide) hi (by cases g <;> simp only [cond_true, cond_false] <;> omega) (by cases g <;> simp only [cond_true, cond_false] <;> omega) (by cases g <;> simp only [cond_true, cond_false] <;> omega)
  have s3 := uRstep (n + 2) b 4 g o i 3 (bif g then (ub x * 256 + ub y) * 256 + ub z else ub x + ub y * 256 + ub z * 65536) w h3 (by decide) (by decide) hi (by cases g <;> simp only [cond_true, cond_false] <;> omega) (by cases g <;> simp only [cond_true, cond_false] <;> omega) (by cases g <;> simp only [cond_true, cond_false] <;> omega)
  have s4 := uRend (n + 1) b 4 g o (i : Int) (num4 g x y z w) 4 (by decide)
  refine s0.trans ?_
  have e0 : (bif g then 0 * 256 + ub x else 0 + ub x * 2 ^ (8 * 0)) = ub x := by cases g <;> simp only [cond_true, cond_false] <;> omega
  have e1 : (bif g then ub x * 256 + ub y else ub x + ub y * 2 ^ (8 * 1)) = (bif g then ub x * 256 + ub y else ub x + ub y * 256) := by cases g <;> simp only [cond_true, cond_false] <;> omega
  rw [e0]
  refine s1.trans ?_
  rw [e1]
  refine s2.trans ?_
  have e2 : (bif g then (bif g then ub x * 256 + ub y else ub x + ub y * 256) * 256 + ub z else (bif g then ub x * 256 + ub y else ub x + ub y * 256) + ub z * 2 ^ (8 * 2)) = (bif g then (ub x * 256 + ub y) * 256 + ub z else ub x + ub y * 256 + ub z * 65536) := by cases g <;> simp only [cond_true, cond_false] <;> omega
  rw [e2]
  refine s3.trans ?_
  have e3 : (bif g then (bif g then (ub x * 256 + ub y) * 256 + ub z else ub x + ub y * 256 + ub z * 65536) * 256 + ub w else (bif g then (ub x * 256 + ub y) * 256 + ub z else ub x + ub y * 256 + ub z * 65536) + ub w * 2 ^ (8 * 3)) = num4 g x y z w := by cases g <;> simp only [cond_true, cond_false, num4] <;> omega
  rw [e3]
  exact s4
end Go.Proofs.YtjaiiojikollmaaDoor

/- Law 1: twos and fours of bytes, pairs. -/
namespace Go.Proofs.YtjaiiojikollmaaDoor
open Go Go.Iv Go.Gv

theorem tkd {α : Type} (l : List α) (k : Nat) : List.take (l.length - k) (List.drop k l) = List.drop k l := List.take_of_length_le (by simp)
theorem at_drop {α : Type} {l r : List α} {i : Nat} (h : l.drop i = r) (k : Nat) : l[i + k]? = r[k]? := by rw [← h, List.getElem?_drop]
theorem roomle {n : Nat} (h : n ≤ 1099511627776) : room n = true := room_ok h

def ch2 (g : Bool) : List UInt8 → List Int
  | a :: b :: r => num2 g a b :: ch2 g r
  | _ => []
def ch4 (g : Bool) : List UInt8 → List Int
  | a :: b :: c :: d :: r => num4 g a b c d :: ch4 g r
  | _ => []

theorem u2R (b : List UInt8) (g : Bool) (hb : b.length < 4194304) : ∀ (m : Nat) (r : List UInt8) (n i : Nat) (o : List Int), r.length ≤ m → b.drop i = r → i ≤ b.length → o.length + r.length < 10000000 → m + 8 ≤ n →
    L20_3 n b 2 g o (i : Int) = some ((b, (2, (o ++ ch2 g r, ()))), ()) := by
  intro m
  induction m using Nat.strongRecOn with
  | _ m ih =>
    intro r n i o hm hr hi ho hn
    obtain ⟨n, rfl⟩ : ∃ k, n = k + 1 := ⟨n - 1, by omega⟩
    have hlen : b.length = i + r.length := by rw [← hr]; simp; omega
    have w : IntKind.wrap .i64 ((i : Int) + 2) = ((i + 2 : Nat) : Int) := by rw [wrap_id] <;> omega
    match r, hr, hm, ho, hlen with
    | [], hr, hm, ho, hlen => simp only [L20_3, w, len, ile_f (show (b.length : Int) < ((i + 2 : Nat) : Int) by simp at hlen; omega), cond_false, ch2, List.append_nil]
    | [x], hr, hm, ho, hlen => simp only [L20_3, w, len, ile_f (show (b.length : Int) < ((i + 2 : Nat) : Int) by simp at hlen; omega), cond_false, ch2, List.append_nil]
    | x :: y :: r, hr, hm, ho, hlen =>
      simp at hlen hm ho
      have h0 := at_drop hr 0
      have h1 := at_drop hr 1
      simp only [L20_3, w, len, ile_t (show ((i + 2 : Nat) : Int) ≤ b.length by omega), cond_true]
      rw [uR2 (n + 2) b g o i x y h0 h1 (by omega) (by omega)]
      simp only [Option.bind_some, w, List.length_cons, List.length_nil]
      rw [roomle (by omega), cond_true]
      have hd : b.drop (i + 2) = r := by rw [← List.drop_drop, hr]; rfl
      rw [ih (m - 2) (by omega) r n (i + 2) _ (by omega) hd (by omega) (by simp; omega) (by omega)]
      simp only [ch2, List.append_assoc, List.cons_append, List.nil_append]

theorem u4R (b : List UInt8) (g : Bool) (hb : b.length < 4194304) : ∀ (m : Nat) (r : List UInt8) (n i : Nat) (o : List Int), r.length ≤ m → b.drop i = r → i ≤ b.length → o.length + r.length < 10000000 → m + 8 ≤ n →
    L20_3 n b 4 g o (i : Int) = some ((b, (4, (o ++ ch4 g r, ()))), ()) := by
  intro m
  induction m using Nat.strongRecOn with
  | _ m ih =>
    intro r n i o hm hr hi ho hn
    obtain ⟨n, rfl⟩ : ∃ k, n = k + 1 := ⟨n - 1, by omega⟩
    have hlen : b.length = i + r.length := by rw [← hr]; simp; omega
    have w : IntKind.wrap .i64 ((i : Int) + 4) = ((i + 4 : Nat) : Int) := by rw [wrap_id] <;> omega
    have small : r.length < 4 → L20_3 (n + 1) b 4 g o (i : Int) = some ((b, (4, (o ++ [], ()))), ()) := fun h => by
      simp only [L20_3, w, len, ile_f (show (b.length : Int) < ((i + 4 : Nat) : Int) by omega), cond_false, List.append_nil]
    match r, hr, hm, ho, hlen, small with
    | [], hr, hm, ho, hlen, small => exact small (by simp)
    | [x], hr, hm, ho, hlen, small => exact small (by simp)
    | [x, y], hr, hm, ho, hlen, small => exact small (by simp)
    | [x, y, z], hr, hm, ho, hlen, small => exact small (by simp)
    | x :: y :: z :: u :: r, hr, hm, ho, hlen, _ =>
      simp at hlen hm ho
      have h0 := at_drop hr 0
      have h1 := at_drop hr 1
      have h2 := at_drop hr 2
      have h3 := at_drop hr 3
      simp only [L20_3, w, len, ile_t (show ((i + 4 : Nat) : Int) ≤ b.length by omega), cond_true]
      rw [uR4 (n + 2) b g o i x y z u h0 h1 h2 h3 (by omega) (by omega)]
      simp only [Option.bind_some, w, List.length_cons, List.length_nil]
      rw [roomle (by omega), cond_true]
      have hd : b.drop (i + 4) = r := by rw [← List.drop_drop, hr]; rfl
      rw [ih (m - 4) (by omega) r n (i + 4) _ (by omega) hd (by omega) (by simp; omega) (by omega)]
      simp only [ch4, List.append_assoc, List.cons_append, List.nil_append]

theorem unitsR2 (n : Nat) (b : List UInt8) (g : Bool) (hb : b.length < 4194304) (hn : b.length + 8 ≤ n) : unitsR n b 2 g = some (ch2 g b, (decide (b.length % 2 = 0), ())) := by
  unfold unitsR
  rw [show (0 : Int) = ((0 : Nat) : Int) from rfl, u2R b g hb b.length b n 0 [] (by omega) rfl (by omega) (by simp; omega) hn]
  simp only [Option.bind_some, List.nil_append, len]
  have e : (Int.tmod (b.length : Int) 2 == ((0 : Nat) : Int)) = decide (b.length % 2 = 0) := by
    rw [Int.tmod_eq_emod_of_nonneg (by omega), Bool.eq_iff_iff]
    simp only [beq_iff_eq, decide_eq_true_eq]
    omega
  rw [e]
  rfl
theorem unitsR4 (n : Nat) (b : List UInt8) (g : Bool) (hb : b.length < 4194304) (hn : b.length + 8 ≤ n) : unitsR n b 4 g = some (ch4 g b, (decide (b.length % 4 = 0), ())) := by
  unfold unitsR
  rw [show (0 : Int) = ((0 : Nat) : Int) from rfl, u4R b g hb b.length b n 0 [] (by omega) rfl (by omega) (by simp; omega) hn]
  simp only [Option.bind_some, List.nil_append, len]
  have e : (Int.tmod (b.length : Int) 4 == ((0 : Nat) : Int)) = decide (b.length % 4 = 0) := by
    rw [Int.tmod_eq_emod_of_nonneg (by omega), Bool.eq_iff_iff]
    simp only [beq_iff_eq, decide_eq_true_eq]
    omega
  rw [e]
  rfl

/-! ### Pairs -/
def okc (c : Int) : Bool := decide (0 ≤ c ∧ c ≤ 1114111 ∧ (c < 55296 ∨ 57343 < c))
def hi (c : Int) : Bool := decide (55296 ≤ c ∧ c < 56320)
def lo (c : Int) : Bool := decide (56320 ≤ c ∧ c < 57344)
def cmb (c d : Int) : Int := 65536 + (c - 55296) * 1024 + d - 56320
def prs : List Int → Option (List Int)
  | [] => some []
  | c :: r => bif hi c then (match r with
      | d :: s => bif lo d then (prs s).map (cmb c d :: ·) else none
      | [] => none) else bif okc c then (prs r).map (c :: ·) else none

def prs2 (c : Int) : List Int → Option (List Int)
  | d :: s => bif lo d then (prs s).map (cmb c d :: ·) else none
  | [] => none
theorem prs_nil : prs [] = some [] := rfl
theorem prs_cons (c : Int) (r : List Int) : prs (c :: r) = bif hi c then prs2 c r else bif okc c then (prs r).map (c :: ·) else none := by
  rw [prs.eq_def]
  cases r <;> rfl

theorem right_spec (n : Nat) (c : Int) : right n c = some (okc c, ()) := by
  unfold right okc
  rw [ile_eq, ile_eq, ilt_eq, ilt_eq]
  by_cases h1 : (0 : Int) ≤ c <;> by_cases h2 : c ≤ 1114111 <;> by_cases h3 : c < 55296 <;> simp only [h1, h2, h3, decide_true, decide_false, cond_true, cond_false, true_and, false_and, true_or, false_or, Bool.decide_and]
theorem is_spec (n : Nat) (c : Int) : is n c = some (okc c, ()) := by
  unfold is okc
  rw [ile_eq, ile_eq, ilt_eq, ile_eq]
  by_cases h1 : (0 : Int) ≤ c <;> by_cases h2 : c ≤ 1114111 <;> by_cases h3 : c < 55296 <;> simp only [h1, h2, h3, decide_true, decide_false, cond_true, cond_false, true_and, false_and, true_or, false_or, Bool.decide_and]
  congr 3
theorem cmb_w {c d : Int} (h1 : hi c = true) (h2 : lo d = true) : IntKind.wrap .i64 (IntKind.wrap .i64 (IntKind.wrap .i64 (65536 + shlI .i64 (IntKind.wrap .i64 (c - 55296)) 10) + d) - 56320) = cmb c d ∧ okc (cmb c d) = true := by
  have a := of_decide_eq_true h1
  have b := of_decide_eq_true h2
  rw [wrap_id (x := c - 55296) (by omega) (by omega), shl10 (by omega) (by omega), wrap_id (x := 65536 + _) (by omega) (by omega), wrap_id (x := _ + d) (by omega) (by omega), wrap_id (by omega) (by omega)]
  exact ⟨rfl, decide_eq_true (by unfold cmb; omega)⟩
theorem hi_not {c : Int} (h : hi c = true) : okc c = false := by
  have := of_decide_eq_true h
  exact decide_eq_false (by omega)

theorem pR (l : List Int) (hl : l.length < 4194304) : ∀ (m : Nat) (r : List Int) (n i : Nat) (o : List Int), r.length ≤ m → l.drop i = r → i ≤ l.length → o.length + r.length < 10000000 → m + 2 ≤ n →
    L21_3 n l o (i : Int) = match prs r with
      | some xs => some (.inl ((o ++ xs, ()), ()))
      | none => some (.inr (((), (false, ())), ())) := by
  intro m
  induction m using Nat.strongRecOn with
  | _ m ih =>
    intro r n i o hm hr hi' ho hn
    obtain ⟨n, rfl⟩ : ∃ k, n = k + 1 := ⟨n - 1, by omega⟩
    have hlen : l.length = i + r.length := by rw [← hr]; simp; omega
    have w : IntKind.wrap .i64 ((i : Int) + 1) = ((i + 1 : Nat) : Int) := by rw [wrap_id] <;> omega
    have w2 : IntKind.wrap .i64 (((i + 1 : Nat) : Int) + 1) = ((i + 2 : Nat) : Int) := by rw [wrap_id] <;> omega
    match r, hr, hm, ho, hlen with
    | [], hr, hm, ho, hlen =>
      simp at hlen
      simp only [L21_3, len, ilt_f (show (l.length : Int) ≤ i by omega), cond_false, prs_nil, List.append_nil]
    | c :: r, hr, hm, ho, hlen =>
      simp at hlen hm ho
      have h0 := at_drop hr 0
      have h1 := at_drop hr 1
      simp only [Nat.add_zero, List.getElem?_cons_zero, List.getElem?_cons_succ] at h0 h1
      have hd : l.drop (i + 1) = r := by rw [← List.drop_drop, hr]; rfl
      have e0 : (Int.toNat (i : Int)) = i := rfl
      have e1 : (Int.toNat ((i + 1 : Nat) : Int)) = i + 1 := rfl
      simp only [L21_3, len, ilt_t (show (i : Int) < l.length by omega), ile_t (show (0 : Int) ≤ i by omega), ile_t (show (0 : Int) ≤ ((i + 1 : Nat) : Int) by omega), cond_true, w, w2, e0, e1, h0, h1, Option.bind_some, right_spec, List.length_cons, List.length_nil, roomle (show (o.length + (0 + 1)) * 9 ≤ 1099511627776 by omega), prs_cons]
      -- what follows a code point that stands alone
      have alone : (bif !okc c then some (.inr (((), (false, ())), ())) else L21_3 n l (o ++ [c]) ((i + 1 : Nat) : Int)) = match (bif okc c then (prs r).map (c :: ·) else none) with
          | some xs => some (.inl ((o ++ xs, ()), ()))
          | none => some (.inr (((), (false, ())), ())) := by
        cases okc c
        · rfl
        · simp only [Bool.not_true, cond_false, cond_true]
          rw [ih (m - 1) (by omega) r n (i + 1) _ (by omega) hd (by omega) (by simp; omega) (by omega)]
          cases prs r
          · rfl
          · simp only [Option.map_some, List.append_assoc, List.cons_append, List.nil_append]
      rw [alone]
      cases hc : hi c with
      | false =>
        simp only [cond_false]
        have hh := of_decide_eq_false hc
        by_cases h2 : (55296 : Int) ≤ c
        · rw [ile_t h2, ilt_f (show (56320 : Int) ≤ c by omega)]; rfl
        · rw [ile_f (by omega)]; rfl
      | true =>
        have hh := of_decide_eq_true hc
        rw [ile_t hh.1, ilt_t hh.2, hi_not hc]
        simp only [cond_true, cond_false]
        match r, hd, hlen, hm, ho with
        | [], hd, hlen, hm, ho =>
          simp at hlen
          rw [ilt_f (show (l.length : Int) ≤ ((i + 1 : Nat) : Int) by omega)]; rfl
        | d :: s, hd, hlen, hm, ho =>
          simp at hlen hm ho
          have hd2 : l.drop (i + 2) = s := by rw [← List.drop_drop, hr]; rfl
          rw [ilt_t (show ((i + 1 : Nat) : Int) < l.length by omega)]
          simp only [cond_true, List.getElem?_cons_zero, Option.bind_some, prs2]
          cases hl2 : lo d with
          | false =>
            simp only [cond_false]
            have hh2 := of_decide_eq_false hl2
            by_cases h2 : (56320 : Int) ≤ d
            · rw [ile_t h2, ilt_f (show (57344 : Int) ≤ d by omega)]; rfl
            · rw [ile_f (by omega)]; rfl
          | true =>
            have hh2 := of_decide_eq_true hl2
            obtain ⟨k1, k2⟩ := cmb_w hc hl2
            rw [ile_t hh2.1, ilt_t hh2.2]
            simp only [cond_true, k1, k2, Bool.not_true, cond_false]
            rw [ih (m - 2) (by omega) s n (i + 2) _ (by omega) hd2 (by omega) (by simp; omega) (by omega)]
            cases prs s
            · rfl
            · simp only [Option.map_some, List.append_assoc, List.cons_append, List.nil_append]

theorem pairsR_spec (n : Nat) (l : List Int) (hl : l.length < 4194304) (hn : l.length + 2 ≤ n) : pairsR n l = some (match prs l with
    | some xs => (xs, (true, ()))
    | none => ([], (false, ()))) := by
  unfold pairsR
  rw [show (0 : Int) = ((0 : Nat) : Int) from rfl, pR l hl l.length l n 0 [] (by omega) rfl (by omega) (by simp; omega) hn]
  cases prs l <;> rfl
end Go.Proofs.YtjaiiojikollmaaDoor

/- Law 1: the program's twos and fours. -/
namespace Go.Proofs.YtjaiiojikollmaaDoor
open Go Go.Iv Go.Gv

/-- All are code points. -/
def allc : List Int → Bool
  | [] => true
  | c :: r => okc c && allc r

theorem take4 {a b c d : UInt8} {r : List UInt8} : List.take ((Int.toNat (4 : Int)) - 0) (List.drop 0 (a :: b :: c :: d :: r)) = [a, b, c, d] := rfl
theorem take2 {a b : UInt8} {r : List UInt8} : List.take ((Int.toNat (2 : Int)) - 0) (List.drop 0 (a :: b :: r)) = [a, b] := rfl

theorem u4P (c65 : Int) (g : Bool) : ∀ (m : Nat) (r : List UInt8) (n : Nat) (o : List Int), r.length ≤ m → o.length + r.length < 10000000 → m + 8 ≤ n →
    (allc (ch4 g r) = true → ∃ s : List UInt8, (s.length = 0 ↔ r.length % 4 = 0) ∧ L34_0_71 n c65 o r 4 g = some (.inl (((), ((), ())), (((), ()), ((c65, ()), ((o ++ ch4 g r, ()), ((s, ()), ((4, ()), ((g, ()), (((), ((), ((), ()))), ())))))))))) ∧
    (allc (ch4 g r) = false → ∃ x, L34_0_71 n c65 o r 4 g = some (.inr x) ∧ x.2.2.1.1 = 4) := by
  intro m
  induction m using Nat.strongRecOn with
  | _ m ih =>
    intro r n o hm ho hn
    obtain ⟨n, rfl⟩ : ∃ k, n = k + 1 := ⟨n - 1, by omega⟩
    have small : r.length < 4 → ch4 g r = [] → (allc (ch4 g r) = true → ∃ s : List UInt8, (s.length = 0 ↔ r.length % 4 = 0) ∧ L34_0_71 (n + 1) c65 o r 4 g = some (.inl (((), ((), ())), (((), ()), ((c65, ()), ((o ++ ch4 g r, ()), ((s, ()), ((4, ()), ((g, ()), (((), ((), ((), ()))), ())))))))))) ∧
        (allc (ch4 g r) = false → ∃ x, L34_0_71 (n + 1) c65 o r 4 g = some (.inr x) ∧ x.2.2.1.1 = 4) := fun h e => by
      rw [e]
      refine ⟨fun _ => ⟨r, by omega, ?_⟩, fun h => by cases h⟩
      simp only [L34_0_71, len, ile_f (show (r.length : Int) < 4 by omega), cond_false, List.append_nil]
    match r, hm, ho, small with
    | [], hm, ho, small => exact small (by simp) rfl
    | [x], hm, ho, small => exact small (by simp) rfl
    | [x, y], hm, ho, small => exact small (by simp) rfl
    | [x, y, z], hm, ho, small => exact small (by simp) rfl
    | x :: y :: z :: u :: r, hm, ho, _ =>
      simp at hm ho
      have hl : (4 : Int) ≤ ((x :: y :: z :: u :: r).length : Nat) := by simp; omega
      simp only [L34_0_71, len, ile_t hl, ile_t (show (0 : Int) ≤ 4 by decide), Bool.and_self, cond_true, take4, unit4 (n + 1) g x y z u (by omega), Option.bind_some, is_spec, ch4, allc, tkd, roomle (show (o.length + [num4 g x y z u].length) * 9 ≤ 1099511627776 by simp; omega)]
      cases okc (num4 g x y z u) with
      | false => exact ⟨fun h => by simp at h, fun _ => ⟨_, rfl, rfl⟩⟩
      | true =>
        simp only [Bool.not_true, cond_false, Bool.true_and]
        obtain ⟨k1, k2⟩ := ih (m - 4) (by omega) r n (o ++ [num4 g x y z u]) (by omega) (by simp; omega) (by omega)
        refine ⟨fun h => ?_, k2⟩
        obtain ⟨s, s1, s2⟩ := k1 h
        refine ⟨s, by simp only [List.length_cons]; omega, ?_⟩
        rw [List.append_assoc] at s2
        exact s2

/-! ### Pairs -/
def p16 : Int → List Int → Option (Int × List Int)
  | f, [] => some (f, [])
  | f, c :: r => bif decide (0 < f) then (bif lo c then (p16 0 r).map (fun q => (q.1, cmb f c :: q.2)) else none) else bif hi c then p16 c r else bif okc c then (p16 f r).map (fun q => (q.1, c :: q.2)) else none

theorem p16_prs : ∀ (m : Nat) (l : List Int), l.length ≤ m → prs l = match p16 0 l with
    | some (f, xs) => bif decide (0 < f) then none else some xs
    | none => none := by
  intro m
  induction m using Nat.strongRecOn with
  | _ m ih =>
    intro l hm
    match l, hm with
    | [], _ => rfl
    | c :: r, hm =>
      simp at hm
      rw [prs_cons]
      cases hc : hi c with
      | false =>
        simp only [p16, hc, show decide ((0 : Int) < 0) = false from rfl, cond_false]
        cases okc c with
        | false => rfl
        | true =>
          simp only [cond_true]
          rw [ih (m - 1) (by omega) r (by omega)]
          cases p16 0 r with
          | none => rfl
          | some q =>
            simp only [Option.map_some]
            cases decide (0 < q.1) <;> rfl
      | true =>
        have hh := of_decide_eq_true hc
        have e : decide (0 < c) = true := decide_eq_true (by omega)
        match r, hm with
        | [], _ => simp only [cond_true, prs2, p16, hc, show decide ((0 : Int) < 0) = false from rfl, cond_false, e]
        | d :: s, hm =>
          simp at hm
          simp only [cond_true, prs2, p16, hc, show decide ((0 : Int) < 0) = false from rfl, cond_false, e]
          cases lo d with
          | false => rfl
          | true =>
            simp only [cond_true]
            rw [ih (m - 2) (by omega) s (by omega)]
            cases p16 0 s with
            | none => rfl
            | some q =>
              simp only [Option.map_some]
              cases decide (0 < q.1) <;> rfl

theorem notm1 : okc (-1) = false := rfl

abbrev I2 := (Unit × (Unit × (Unit × Unit))) × Unit
abbrev Lft2 := (Unit × (Unit × Unit)) × ((Unit × Unit) × ((Int × Unit) × ((List Int × Unit) × ((List UInt8 × Unit) × ((Bool × Unit) × ((Unit × (Unit × (Unit × Unit))) × ((Unit × Unit) × ((Int × Unit) × ((List UInt8 × Unit) × ((Int × Unit) × ((Bool × Unit) × ((Unit × (Unit × Unit)) × Unit))))))))))))
abbrev Rgt2 := Unit × ((Unit × Unit) × ((Int × Unit) × ((List Int × Unit) × ((List UInt8 × Unit) × ((Bool × Unit) × ((Unit × (Unit × (Unit × Unit))) × ((Unit × Unit) × ((Int × Unit) × ((List UInt8 × Unit) × ((Int × Unit) × ((Bool × Unit) × ((Unit × (Unit × Unit)) × Unit))))))))))))

/-- How the loop ends. -/
def R2 (o : List Int) (k : Nat) (v : Option (Lft2 ⊕ Rgt2)) : Option (Int × List Int) → Prop
  | some (f, xs) => ∃ y : Lft2, v = some (.inl y) ∧ y.2.2.2.1.1 = o ++ xs ∧ y.2.2.2.2.2.2.2.2.1.1 = f ∧ (y.2.2.2.2.2.2.2.2.2.1.1.length = 0 ↔ k % 2 = 0)
  | none => ∃ x : Rgt2, v = some (.inr x) ∧ x.2.2.1.1 = 4

theorem R2.more {o : List Int} {k : Nat} {v : Option (Lft2 ⊕ Rgt2)} {q : Option (Int × List Int)} (h : R2 o k v q) : R2 o (k + 1 + 1) v q := by
  cases q with
  | none => exact h
  | some q => obtain ⟨y, h1, h2, h3, h4⟩ := h; exact ⟨y, h1, h2, h3, h4.trans (by omega)⟩
theorem R2.cons {o : List Int} {c : Int} {k : Nat} {v : Option (Lft2 ⊕ Rgt2)} {q : Option (Int × List Int)} (h : R2 (o ++ [c]) k v q) : R2 o (k + 1 + 1) v (q.map fun p => (p.1, c :: p.2)) := by
  cases q with
  | none => exact h
  | some q => obtain ⟨y, h1, h2, h3, h4⟩ := h; exact ⟨y, h1, by simpa using h2, h3, h4.trans (by omega)⟩

theorem u2P (c65 : Int) (g : Bool) (b7 : List UInt8) (g8 : Bool) : ∀ (m : Nat) (r : List UInt8) (n : Nat) (o : List Int) (f : Int), r.length ≤ m → o.length + r.length < 10000000 → m + 8 ≤ n → (f = 0 ∨ hi f = true) →
    R2 o r.length (L34_0 n c65 o b7 g8 f r 2 g) (p16 f (ch2 g r)) := by
  intro m
  induction m using Nat.strongRecOn with
  | _ m ih =>
    intro r n o f hm ho hn hf
    obtain ⟨n, rfl⟩ : ∃ k, n = k + 1 := ⟨n - 1, by omega⟩
    match r, hm, ho with
    | [], hm, ho =>
      simp only [L34_0, len, ile_f (show (([] : List UInt8).length : Int) < 2 by simp), cond_false]
      exact ⟨_, rfl, (List.append_nil o).symm, rfl, by simp⟩
    | [x], hm, ho =>
      simp only [L34_0, len, ile_f (show ([x].length : Int) < 2 by simp), cond_false]
      exact ⟨_, rfl, (List.append_nil o).symm, rfl, by simp⟩
    | x :: y :: r, hm, ho =>
      simp at hm ho
      have hl : (2 : Int) ≤ ((x :: y :: r).length : Nat) := by simp; omega
      have rm : ∀ c : Int, room ((o.length + [c].length) * 9) = true := fun c => roomle (by simp; omega)
      simp only [L34_0, len, ile_t hl, ile_t (show (0 : Int) ≤ 2 by decide), Bool.and_self, cond_true, take2, unit2 (n + 2) g x y (by omega), Option.bind_some, is_spec, ch2, tkd, notm1, Bool.not_false, rm]
      generalize num2 g x y = c
      rcases hf with rfl | hf
      · simp only [ilt_f (show (0 : Int) ≤ 0 by decide), cond_false, p16, show decide ((0 : Int) < 0) = false from rfl]
        cases hc : hi c with
        | true =>
          have hh := of_decide_eq_true hc
          simp only [ile_t hh.1, ilt_t hh.2, cond_true]
          exact (ih (m - 2) (by omega) r n o c (by omega) (by omega) (by omega) (.inr hc)).more
        | false =>
          have hh := of_decide_eq_false hc
          have key : okc c = true → R2 o (r.length + 1 + 1) (L34_0 n c65 (o ++ [c]) b7 g8 0 r 2 g) (bif okc c then Option.map (fun q : Int × List Int => (q.1, c :: q.2)) (p16 0 (ch2 g r)) else none) := fun e => by
            rw [e]; exact (ih (m - 2) (by omega) r n (o ++ [c]) 0 (by omega) (by simp; omega) (by omega) (.inl rfl)).cons
          by_cases h2 : (55296 : Int) ≤ c
          · simp only [ile_t h2, ilt_f (show (56320 : Int) ≤ c by omega), cond_true, cond_false]
            cases h3 : okc c with
            | false => exact ⟨_, rfl, rfl⟩
            | true => rw [h3] at key; exact key rfl
          · simp only [ile_f (show c < (55296 : Int) by omega), cond_false]
            cases h3 : okc c with
            | false => exact ⟨_, rfl, rfl⟩
            | true => rw [h3] at key; exact key rfl
      · have hh := of_decide_eq_true hf
        have f0 : decide (0 < f) = true := decide_eq_true (by omega)
        simp only [ilt_t (show 0 < f by omega), cond_true, p16, f0]
        cases hc : lo c with
        | true =>
          have hd := of_decide_eq_true hc
          obtain ⟨k1, k2⟩ := cmb_w hf hc
          simp only [ile_t hd.1, ilt_t hd.2, cond_true, k1, k2, Bool.not_true, cond_false, rm]
          exact (ih (m - 2) (by omega) r n (o ++ [cmb f c]) 0 (by omega) (by simp; omega) (by omega) (.inl rfl)).cons
        | false =>
          have hd := of_decide_eq_false hc
          simp only [cond_false]
          by_cases h2 : (56320 : Int) ≤ c
          · simp only [ile_t h2, ilt_f (show (57344 : Int) ≤ c by omega), cond_true, cond_false]; exact ⟨_, rfl, rfl⟩
          · simp only [ile_f (show c < (56320 : Int) by omega), cond_false]; exact ⟨_, rfl, rfl⟩
end Go.Proofs.YtjaiiojikollmaaDoor

/- Law 1: one code point of UTF-8. -/
namespace Go.Proofs.YtjaiiojikollmaaDoor
open Go Go.Iv Go.Gv
set_option maxRecDepth 10000

def cont (x : UInt8) : Prop := 128 ≤ ub x ∧ ub x ≤ 191
instance (x : UInt8) : Decidable (cont x) := inferInstanceAs (Decidable (_ ∧ _))
def v2 (a b : UInt8) : Int := (ub a % 32) * 64 + ub b % 64
def v3 (a b c : UInt8) : Int := ((ub a % 16) * 64 + ub b % 64) * 64 + ub c % 64
def v4 (a b c d : UInt8) : Int := (((ub a % 8) * 64 + ub b % 64) * 64 + ub c % 64) * 64 + ub d % 64

/-- The code point that begins here, and how many bytes it has. -/
def pt : List UInt8 → Option (Int × Nat)
  | [] => none
  | a :: r =>
    if ub a < 128 then some (ub a, 1)
    else if ub a < 194 then none
    else if ub a < 224 then match r with
      | b :: _ => if cont b then some (v2 a b, 2) else none
      | _ => none
    else if ub a < 240 then match r with
      | b :: c :: _ => if cont b ∧ cont c ∧ 2048 ≤ v3 a b c ∧ okc (v3 a b c) = true then some (v3 a b c, 3) else none
      | _ => none
    else if ub a < 245 then match r with
      | b :: c :: d :: _ => if cont b ∧ cont c ∧ cont d ∧ 65536 ≤ v4 a b c d ∧ okc (v4 a b c d) = true then some (v4 a b c d, 4) else none
      | _ => none
    else none

theorem pt_ok {l : List UInt8} {c : Int} {k : Nat} (h : pt l = some (c, k)) : okc c = true ∧ 1 ≤ k ∧ k ≤ l.length ∧ 0 ≤ c ∧ c ≤ 1114111 := by
  have fin : ∀ {c : Int} {k : Nat}, okc c = true → 1 ≤ k → k ≤ l.length → okc c = true ∧ 1 ≤ k ∧ k ≤ l.length ∧ 0 ≤ c ∧ c ≤ 1114111 := fun h1 h2 h3 => by
    have := of_decide_eq_true h1; exact ⟨h1, h2, h3, by omega, by omega⟩
  unfold pt at h
  match l, h with
  | a :: r, h =>
    have ha := ub_lt a
    dsimp only at h
    split at h
    · cases h; exact fin (decide_eq_true (by omega)) (by omega) (by simp)
    split at h
    · cases h
    split at h
    · split at h
      · split at h
        · cases h
          refine fin (decide_eq_true ?_) (by omega) (by simp)
          unfold v2; omega
        · cases h
      · cases h
    split at h
    · split at h
      · split at h
        · rename_i hh; cases h; exact fin hh.2.2.2 (by omega) (by simp)
        · cases h
      · cases h
    split at h
    · split at h
      · split at h
        · rename_i hh; cases h; exact fin hh.2.2.2.2 (by omega) (by simp)
        · cases h
      · cases h
    · cases h

theorem and63 {x : Int} (h1 : 0 ≤ x) (h2 : x < 1000) : andI .i64 x 63 = x % 64 := andI_i64 6 (by decide) x h1 (by omega)
theorem and31 {x : Int} (h1 : 0 ≤ x) (h2 : x < 1000) : andI .i64 x 31 = x % 32 := andI_i64 5 (by decide) x h1 (by omega)
theorem and15 {x : Int} (h1 : 0 ≤ x) (h2 : x < 1000) : andI .i64 x 15 = x % 16 := andI_i64 4 (by decide) x h1 (by omega)
theorem and7 {x : Int} (h1 : 0 ≤ x) (h2 : x < 1000) : andI .i64 x 7 = x % 8 := andI_i64 3 (by decide) x h1 (by omega)

/-! ### The document's -/
theorem cstep (n : Nat) (b : List UInt8) (N L c : Int) (k : Nat) (y : UInt8) (hk : b[k]? = some y) (hN : (k : Int) < N) (hN2 : N < 100) (h1 : 0 ≤ c) (h2 : c < 1099511627776) :
    L31_23 (n + 1) b N L c (k : Int) = if cont y then L31_23 n b N L (c * 64 + ub y % 64) ((k + 1 : Nat) : Int) else some (.inr ((0, (0, ())), ())) := by
  have hy := ub_lt y
  have w : IntKind.wrap .i64 ((k : Int) + 1) = ((k + 1 : Nat) : Int) := by rw [wrap_id] <;> omega
  have e0 : (Int.toNat (k : Int)) = k := rfl
  conv => lhs; unfold L31_23
  simp only [ilt_t hN, ile_t (show (0 : Int) ≤ k by omega), cond_true, e0, hk, Option.bind_some, ub_wrap, w]
  by_cases h3 : ub y < 128
  · rw [ilt_t h3, if_neg (fun h => by have := h.1; omega)]; rfl
  · rw [ilt_f (show 128 ≤ ub y by omega), cond_false]
    by_cases h4 : 191 < ub y
    · rw [ilt_t h4, if_neg (fun h => by have := h.2; omega)]; rfl
    · rw [ilt_f (show ub y ≤ 191 by omega), cond_false, if_pos ⟨by omega, by omega⟩]
      rw [and63 (by omega) (by omega), wrap_id (x := c * 64) (by omega) (by omega), wrap_id (by omega) (by omega)]
theorem cend (n : Nat) (b : List UInt8) (N L c : Int) : L31_23 (n + 1) b N L c N = some (.inl ((N, (L, (c, ()))), ())) := by
  simp only [L31_23, ilt_f (show N ≤ N by omega), cond_false]

/-- What it says. -/
def rp : Option (Int × Nat) → Int × (Int × Unit)
  | some (c, k) => (c, ((k : Int), ()))
  | none => (0, (0, ()))

theorem tail_spec (n : Nat) (L c N : Int) :
    (bif Go.Iv.ilt c L then some (0, (0, ())) else Option.bind (right n c) fun y => bif !y.1 then some (0, (0, ())) else some (c, (N, ()))) = if L ≤ c ∧ okc c = true then some (c, (N, ())) else some ((0 : Int), ((0 : Int), ())) := by
  rw [right_spec]
  by_cases h : c < L
  · rw [ilt_t h, if_neg (fun hh => by omega)]; rfl
  · rw [ilt_f (by omega)]
    cases okc c with
    | false => rw [if_neg (fun hh => by cases hh.2)]; rfl
    | true => rw [if_pos ⟨by omega, rfl⟩]; rfl

theorem pointR_spec (n : Nat) (a : UInt8) (r : List UInt8) (hn : 10 ≤ n) (hr : r.length < 10000000) : pointR n (a :: r) = some (rp (pt (a :: r))) := by
  obtain ⟨n, rfl⟩ : ∃ m, n = m + 10 := ⟨n - 10, by omega⟩
  have ha := ub_lt a
  have hp := pt.eq_def (a :: r)
  dsimp only at hp
  rw [hp]
  unfold pointR
  simp only [List.getElem?_cons_zero, Option.bind_some, ub_wrap, len]
  by_cases h1 : ub a < 128
  · rw [ilt_t h1, if_pos h1]; rfl
  rw [ilt_f (show 128 ≤ ub a by omega), if_neg h1]
  simp only [cond_false]
  by_cases h2 : ub a < 194
  · rw [ile_f h2, if_pos h2, ile_f (show ub a < 224 by omega), ile_f (show ub a < 240 by omega)]; rfl
  rw [ile_t (show 194 ≤ ub a by omega), if_neg h2]
  simp only [cond_true]
  by_cases h3 : ub a < 224
  · rw [ilt_t h3, if_pos h3]
    simp only [cond_true]
    match r, hr with
    | [], _ => rfl
    | b :: s, hr =>
      have hb := ub_lt b
      simp only [List.length_cons] at hr ⊢
      rw [ilt_f (show (2 : Int) ≤ ((s.length + 1 + 1 : Nat) : Int) by omega), and31 (by omega) (by omega)]
      have s1 := cstep (n + 10) (a :: b :: s) 2 128 (ub a % 32) 1 b rfl (by decide) (by decide) (by omega) (by omega)
      have s2 := cend (n + 9) (a :: b :: s) 2 128 (ub a % 32 * 64 + ub b % 64)
      simp only [cond_false]
      refine (congrArg (fun z => Option.bind z _) s1).trans ?_
      by_cases hc : cont b
      · rw [if_pos hc, if_pos hc]
        refine (congrArg (fun z => Option.bind z _) s2).trans ?_
        simp only [Option.bind_some]
        rw [tail_spec, if_pos ⟨by omega, decide_eq_true (by omega)⟩]
        rfl
      · rw [if_neg hc, if_neg hc]; rfl
  rw [ilt_f (show 224 ≤ ub a by omega), if_neg h3]
  simp only [cond_false]
  rw [ile_t (show 224 ≤ ub a by omega)]
  simp only [cond_true]
  by_cases h4 : ub a < 240
  · rw [ilt_t h4, if_pos h4]
    simp only [cond_true]
    match r, hr with
    | [], _ => rfl
    | [b], _ => rfl
    | b :: c :: s, hr =>
      have hb := ub_lt b
      have hc := ub_lt c
      simp only [List.length_cons] at hr ⊢
      rw [ilt_f (show (3 : Int) ≤ ((s.length + 1 + 1 + 1 : Nat) : Int) by omega), and15 (by omega) (by omega)]
      have s1 := cstep (n + 10) (a :: b :: c :: s) 3 2048 (ub a % 16) 1 b rfl (by decide) (by decide) (by omega) (by omega)
      have s2 := cstep (n + 9) (a :: b :: c :: s) 3 2048 (ub a % 16 * 64 + ub b % 64) 2 c rfl (by decide) (by decide) (by omega) (by omega)
      have s3 := cend (n + 8) (a :: b :: c :: s) 3 2048 (v3 a b c)
      simp only [cond_false]
      refine (congrArg (fun z => Option.bind z _) s1).trans ?_
      by_cases hb2 : cont b
      · rw [if_pos hb2]
        refine (congrArg (fun z => Option.bind z _) s2).trans ?_
        by_cases hc2 : cont c
        · rw [if_pos hc2]
          refine (congrArg (fun z => Option.bind z _) s3).trans ?_
          simp only [Option.bind_some]
          rw [tail_spec]
          by_cases hv : 2048 ≤ v3 a b c ∧ okc (v3 a b c) = true
          · rw [if_pos hv, if_pos ⟨hb2, hc2, hv⟩]; rfl
          · rw [if_neg hv, if_neg (fun h => hv h.2.2)]; rfl
        · rw [if_neg hc2, if_neg (fun h => hc2 h.2.1)]; rfl
      · rw [if_neg hb2, if_neg (fun h => hb2 h.1)]; rfl
  rw [ilt_f (show 240 ≤ ub a by omega), if_neg h4]
  simp only [cond_false]
  rw [ile_t (show 240 ≤ ub a by omega)]
  simp only [cond_true]
  by_cases h5 : ub a < 245
  · rw [ilt_t h5, if_pos h5]
    simp only [cond_true]
    match r, hr with
    | [], _ => rfl
    | [b], _ => rfl
    | [b, c], _ => rfl
    | b :: c :: d :: s, hr =>
      have hb := ub_lt b
      have hc := ub_lt c
      have hd := ub_lt d
      simp only [List.length_cons] at hr ⊢
      rw [ilt_f (show (4 : Int) ≤ ((s.length + 1 + 1 + 1 + 1 : Nat) : Int) by omega), and7 (by omega) (by omega)]
      have s1 := cstep (n + 10) (a :: b :: c :: d :: s) 4 65536 (ub a % 8) 1 b rfl (by decide) (by decide) (by omega) (by omega)
      have s2 := cstep (n + 9) (a :: b :: c :: d :: s) 4 65536 (ub a % 8 * 64 + ub b % 64) 2 c rfl (by decide) (by decide) (by omega) (by omega)
      have s3 := cstep (n + 8) (a :: b :: c :: d :: s) 4 65536 ((ub a % 8 * 64 + ub b % 64) * 64 + ub c % 64) 3 d rfl (by decide) (by decide) (by omega) (by omega)
      have s4 := cend (n + 7) (a :: b :: c :: d :: s) 4 65536 (v4 a b c d)
      simp only [cond_false]
      refine (congrArg (fun z => Option.bind z _) s1).trans ?_
      by_cases hb2 : cont b
      · rw [if_pos hb2]
        refine (congrArg (fun z => Option.bind z _) s2).trans ?_
        by_cases hc2 : cont c
        · rw [if_pos hc2]
          refine (congrArg (fun z => Option.bind z _) s3).trans ?_
          by_cases hd2 : cont d
          · rw [if_pos hd2]
            refine (congrArg (fun z => Option.bind z _) s4).trans ?_
            simp only [Option.bind_some]
            rw [tail_spec]
            by_cases hv : 65536 ≤ v4 a b c d ∧ okc (v4 a b c d) = true
            · rw [if_pos hv, if_pos ⟨hb2, hc2, hd2, hv⟩]; rfl
            · rw [if_neg hv, if_neg (fun h => hv h.2.2.2)]; rfl
          · rw [if_neg hd2, if_neg (fun h => hd2 h.2.2.1)]; rfl
        · rw [if_neg hc2, if_neg (fun h => hc2 h.2.1)]; rfl
      · rw [if_neg hb2, if_neg (fun h => hb2 h.1)]; rfl
  rw [ilt_f (show 245 ≤ ub a by omega), if_neg h5]
  rfl
end Go.Proofs.YtjaiiojikollmaaDoor

/- Law 1: the library's decoding of one code point. -/
namespace Go.Proofs.YtjaiiojikollmaaDoor
open Go Go.Iv Go.Gv
set_option maxRecDepth 10000

/-- What the table tells of a first byte. -/
def cls (a : UInt8) : UInt8 :=
  if a.toNat < 128 then 240 else if a.toNat < 194 then 241 else if a.toNat < 224 then 2 else if a.toNat = 224 then 19 else if a.toNat < 237 then 3 else if a.toNat = 237 then 35 else if a.toNat < 240 then 3 else if a.toNat = 240 then 52 else if a.toNat < 244 then 4 else if a.toNat = 244 then 68 else 241
theorem tab_all : ∀ i : Fin 256, tab0[i.val]? = some (cls (UInt8.ofNat i.val)) := by decide +kernel
theorem tab_cls (a : UInt8) : tab0[(Int.toNat (ub a))]? = some (cls a) := by
  have := tab_all ⟨a.toNat, a.toNat_lt⟩
  show tab0[a.toNat]? = _
  simpa using this

theorem ub_and (x : UInt8) (k : Nat) (hk : k ≤ 7) : ub (x &&& UInt8.ofNat (2 ^ k - 1)) = ub x % 2 ^ k := by
  have h1 : (UInt8.ofNat (2 ^ k - 1)).toNat = 2 ^ k - 1 := by
    rw [UInt8.toNat_ofNat']
    have := Nat.pow_le_pow_right (show 0 < 2 by decide) hk
    omega
  unfold ub
  rw [UInt8.toNat_and, h1, Nat.and_two_pow_sub_one_eq_mod]
  rw [Int.natCast_emod, Int.natCast_pow]; rfl

theorem ofI32 (x : Int) : andNotI .i32 x (-1) = 0 := by
  unfold andNotI
  have : ~~~(BitVec.ofInt (IntKind.bits .i32) (-1)) = 0#_ := by decide
  rw [this, BitVec.and_zero]; rfl

theorem i32or6 {a b : Int} (h1 : 0 ≤ a) (h2 : a < 33554432) (h3 : 0 ≤ b) (h4 : b < 64) : orI .i32 (a * 64) b = a * 64 + b := orI_i32 6 _ _ (by omega) (by omega) (by omega) h3 (by omega) (by omega)
theorem i32or12 {a b : Int} (h1 : 0 ≤ a) (h2 : a < 524288) (h3 : 0 ≤ b) (h4 : b < 4096) : orI .i32 (a * 4096) b = a * 4096 + b := orI_i32 12 _ _ (by omega) (by omega) (by omega) h3 (by omega) (by omega)
theorem i32or18 {a b : Int} (h1 : 0 ≤ a) (h2 : a < 8192) (h3 : 0 ≤ b) (h4 : b < 262144) : orI .i32 (a * 262144) b = a * 262144 + b := orI_i32 18 _ _ (by omega) (by omega) (by omega) h3 (by omega) (by omega)
theorem i32shl6 {a : Int} (h1 : 0 ≤ a) (h2 : a < 256) : shlI .i32 a 6 = a * 64 := shlI_i32 a 6 (by decide) (by omega) (by omega)
theorem i32shl12 {a : Int} (h1 : 0 ≤ a) (h2 : a < 256) : shlI .i32 a 12 = a * 4096 := shlI_i32 a 12 (by decide) (by omega) (by omega)
theorem i32shl18 {a : Int} (h1 : 0 ≤ a) (h2 : a < 256) : shlI .i32 a 18 = a * 262144 := shlI_i32 a 18 (by decide) (by omega) (by omega)

theorem val2 (a b : UInt8) : orI .i32 (shlI .i32 (IntKind.wrap .i32 (ub (a &&& 31))) 6) (IntKind.wrap .i32 (ub (b &&& 63))) = v2 a b := by
  have e1 : ub (a &&& 31) = ub a % 32 := ub_and a 5 (by decide)
  have e2 : ub (b &&& 63) = ub b % 64 := ub_and b 6 (by decide)
  have := ub_lt a
  have := ub_lt b
  rw [ub_wrap32, ub_wrap32, e1, e2, i32shl6 (by omega) (by omega), i32or6 (by omega) (by omega) (by omega) (by omega)]
  rfl
theorem val3 (a b c : UInt8) : orI .i32 (orI .i32 (shlI .i32 (IntKind.wrap .i32 (ub (a &&& 15))) 12) (shlI .i32 (IntKind.wrap .i32 (ub (b &&& 63))) 6)) (IntKind.wrap .i32 (ub (c &&& 63))) = v3 a b c := by
  have e1 : ub (a &&& 15) = ub a % 16 := ub_and a 4 (by decide)
  have e2 : ub (b &&& 63) = ub b % 64 := ub_and b 6 (by decide)
  have e3 : ub (c &&& 63) = ub c % 64 := ub_and c 6 (by decide)
  have := ub_lt a
  have := ub_lt b
  have := ub_lt c
  rw [ub_wrap32, ub_wrap32, ub_wrap32, e1, e2, e3, i32shl12 (by omega) (by omega), i32shl6 (by omega) (by omega), i32or12 (by omega) (by omega) (by omega) (by omega)]
  rw [show ub a % 16 * 4096 + ub b % 64 * 64 = (ub a % 16 * 64 + ub b % 64) * 64 by omega, i32or6 (by omega) (by omega) (by omega) (by omega)]
  rfl
theorem val4 (a b c d : UInt8) : orI .i32 (orI .i32 (orI .i32 (shlI .i32 (IntKind.wrap .i32 (ub (a &&& 7))) 18) (shlI .i32 (IntKind.wrap .i32 (ub (b &&& 63))) 12)) (shlI .i32 (IntKind.wrap .i32 (ub (c &&& 63))) 6)) (IntKind.wrap .i32 (ub (d &&& 63))) = v4 a b c d := by
  have e1 : ub (a &&& 7) = ub a % 8 := ub_and a 3 (by decide)
  have e2 : ub (b &&& 63) = ub b % 64 := ub_and b 6 (by decide)
  have e3 : ub (c &&& 63) = ub c % 64 := ub_and c 6 (by decide)
  have e4 : ub (d &&& 63) = ub d % 64 := ub_and d 6 (by decide)
  have := ub_lt a
  have := ub_lt b
  have := ub_lt c
  have := ub_lt d
  rw [ub_wrap32, ub_wrap32, ub_wrap32, ub_wrap32, e1, e2, e3, e4, i32shl18 (by omega) (by omega), i32shl12 (by omega) (by omega), i32shl6 (by omega) (by omega), i32or18 (by omega) (by omega) (by omega) (by omega)]
  rw [show ub a % 8 * 262144 + ub b % 64 * 4096 = (ub a % 8 * 64 + ub b % 64) * 4096 by omega, i32or12 (by omega) (by omega) (by omega) (by omega)]
  rw [show (ub a % 8 * 64 + ub b % 64) * 4096 + ub c % 64 * 64 = ((ub a % 8 * 64 + ub b % 64) * 64 + ub c % 64) * 64 by omega, i32or6 (by omega) (by omega) (by omega) (by omega)]
  rfl

/-- What the library says. -/
def dp : Option (Int × Nat) → Int × (Int × Unit)
  | some (c, k) => (c, ((k : Int), ()))
  | none => (65533, (1, ()))

theorem blt_ub {x y : UInt8} : Nat.blt x.toNat y.toNat = decide (ub x < ub y) := by
  rw [Bool.eq_iff_iff, Nat.blt_eq, decide_eq_true_eq]; unfold ub; omega

/-- Of two, three, four bytes; the second one's bounds. -/
theorem two (a x1 : UInt8) (r : List UInt8) (n : Nat) (hx : cls a = x1) (h1 : Nat.ble (UInt8.toNat 240) x1.toNat = false) (l h : UInt8) (ht : tab1[(Int.toNat (ub (shrB x1 4)))]? = some (l, h)) (h16 : ub (shrB x1 4) < 16) (k : Int) (hk : IntKind.wrap .i64 (ub (x1 &&& 7)) = k) (hr : r.length < 10000000) :
    drs n (a :: r) = bif ilt ((r.length + 1 : Nat) : Int) k then some (65533, (1, ())) else (r[0]?).bind fun b => if ub l ≤ ub b ∧ ub b ≤ ub h then (bif ile k 2 then some (v2 a b, (2, ())) else (r[1]?).bind fun c => if cont c then (bif ile k 3 then some (v3 a b c, (3, ())) else (r[2]?).bind fun d => if cont d then some (v4 a b c d, (4, ())) else some (65533, (1, ()))) else some (65533, (1, ()))) else some (65533, (1, ())) := by
  have ha := ub_lt a
  unfold drs
  simp only [len, List.length_cons, ilt_f (show (1 : Int) ≤ ((r.length + 1 : Nat) : Int) by omega), cond_false, List.getElem?_cons_zero, List.getElem?_cons_succ, Option.bind_some, ilt_t (show ub a < 256 by omega), cond_true, tab_cls, hx, h1, ilt_t h16, ht, hk]
  cases ilt ((r.length + 1 : Nat) : Int) k with
  | true => rfl
  | false =>
    simp only [cond_false]
    cases hb : r[0]? with
    | none => rfl
    | some b =>
      simp only [Option.bind_some, blt_ub]
      by_cases q1 : ub b < ub l
      · rw [decide_eq_true q1, if_neg (fun hh => by omega)]; rfl
      rw [decide_eq_false q1]
      simp only [cond_false]
      by_cases q2 : ub h < ub b
      · rw [decide_eq_true q2, if_neg (fun hh => by omega)]; rfl
      rw [decide_eq_false q2, if_pos ⟨by omega, by omega⟩, val2]
      simp only [cond_false]
      cases ile k 2 with
      | true => rfl
      | false =>
        simp only [cond_false]
        cases hc : r[1]? with
        | none => rfl
        | some c =>
          simp only [Option.bind_some]
          have u128 : ub 128 = 128 := rfl
          have u191 : ub 191 = 191 := rfl
          rw [u128, u191]
          by_cases q3 : ub c < 128
          · rw [decide_eq_true q3, if_neg (fun hh => by have := hh.1; omega)]; rfl
          rw [decide_eq_false q3]
          simp only [cond_false]
          by_cases q4 : 191 < ub c
          · rw [decide_eq_true q4, if_neg (fun hh => by have := hh.2; omega)]; rfl
          rw [decide_eq_false q4, if_pos ⟨by omega, by omega⟩, val3]
          simp only [cond_false]
          cases ile k 3 with
          | true => rfl
          | false =>
            simp only [cond_false]
            cases hd : r[2]? with
            | none => rfl
            | some d =>
              simp only [Option.bind_some]
              by_cases q5 : ub d < 128
              · rw [decide_eq_true q5, if_neg (fun hh => by have := hh.1; omega)]; rfl
              rw [decide_eq_false q5]
              simp only [cond_false]
              by_cases q6 : 191 < ub d
              · rw [decide_eq_true q6, if_neg (fun hh => by have := hh.2; omega)]; rfl
              rw [decide_eq_false q6, if_pos ⟨by omega, by omega⟩, val4]
              simp only [cond_false]

theorem bad (a : UInt8) (r : List UInt8) (n : Nat) (hx : cls a = 241) (hr : r.length < 10000000) : drs n (a :: r) = some (65533, (1, ())) := by
  have ha := ub_lt a
  unfold drs
  simp only [len, List.length_cons, ilt_f (show (1 : Int) ≤ ((r.length + 1 : Nat) : Int) by omega), cond_false, List.getElem?_cons_zero, Option.bind_some, ilt_t (show ub a < 256 by omega), cond_true, tab_cls, hx, show Nat.ble (UInt8.toNat 240) (UInt8.toNat 241) = true from rfl]
  have m : shrI .i32 (shlI .i32 (IntKind.wrap .i32 (ub 241)) 31) 31 = -1 := by decide
  rw [m, ofI32]
  rfl

theorem drs_spec (n : Nat) (a : UInt8) (r : List UInt8) (h1 : 128 ≤ ub a) (hr : r.length < 10000000) : drs n (a :: r) = some (dp (pt (a :: r))) := by
  have ha := ub_lt a
  have hp := pt.eq_def (a :: r)
  dsimp only at hp
  rw [hp, if_neg (show ¬ ub a < 128 by omega)]
  have an : ub a = (a.toNat : Int) := rfl
  by_cases h2 : ub a < 194
  · rw [if_pos h2]
    refine bad a r n ?_ hr
    unfold cls; rw [if_neg (by omega), if_pos (by omega)]
  rw [if_neg h2]
  by_cases h3 : ub a < 224
  · rw [if_pos h3]
    have hc : cls a = 2 := by unfold cls; rw [if_neg (by omega), if_neg (by omega), if_pos (by omega)]
    rw [two a 2 r n hc rfl 128 191 rfl (by decide) 2 (by decide) hr]
    match r, hr with
    | [], _ => rfl
    | b :: s, hr =>
      rw [ilt_f (show (2 : Int) ≤ (((b :: s).length + 1 : Nat) : Int) by simp only [List.length_cons]; omega)]
      simp only [cond_false, List.getElem?_cons_zero, Option.bind_some]
      by_cases q : cont b
      · rw [if_pos q, if_pos (show ub 128 ≤ ub b ∧ ub b ≤ ub 191 from q)]; rfl
      · rw [if_neg q, if_neg (show ¬ (ub 128 ≤ ub b ∧ ub b ≤ ub 191) from q)]; rfl
  rw [if_neg h3]
  by_cases h4 : ub a < 240
  · rw [if_pos h4]
    have key : ∀ (x1 l h : UInt8), cls a = x1 → Nat.ble (UInt8.toNat 240) x1.toNat = false → tab1[(Int.toNat (ub (shrB x1 4)))]? = some (l, h) → ub (shrB x1 4) < 16 → IntKind.wrap .i64 (ub (x1 &&& 7)) = 3 →
        (∀ b c : UInt8, cont c → ((ub l ≤ ub b ∧ ub b ≤ ub h) ↔ (cont b ∧ 2048 ≤ v3 a b c ∧ okc (v3 a b c) = true))) → drs n (a :: r) = some (dp (match (generalizing := false) r with
          | b :: c :: _ => if cont b ∧ cont c ∧ 2048 ≤ v3 a b c ∧ okc (v3 a b c) = true then some (v3 a b c, 3) else none
          | _ => none)) := by
      intro x1 l h e1 e2 e3 e4 e5 e6
      rw [two a x1 r n e1 e2 l h e3 e4 3 e5 hr]
      match r, hr with
      | [], _ => rfl
      | [b], _ => rfl
      | b :: c :: s, hr =>
        rw [ilt_f (show (3 : Int) ≤ (((b :: c :: s).length + 1 : Nat) : Int) by simp only [List.length_cons]; omega)]
        simp only [cond_false, List.getElem?_cons_zero, List.getElem?_cons_succ, Option.bind_some]
        by_cases hc : cont c
        · have e := e6 b c hc
          by_cases q : ub l ≤ ub b ∧ ub b ≤ ub h
          · have := e.1 q
            rw [if_pos q, if_pos hc, if_pos ⟨this.1, hc, this.2⟩]; rfl
          · rw [if_neg q, if_neg (fun hh => q (e.2 ⟨hh.1, hh.2.2⟩))]; rfl
        · rw [if_neg hc, if_neg (show ¬ (cont b ∧ cont c ∧ 2048 ≤ v3 a b c ∧ okc (v3 a b c) = true) from fun hh => hc hh.2.1)]
          by_cases q : ub l ≤ ub b ∧ ub b ≤ ub h
          · rw [if_pos q]; rfl
          · rw [if_neg q]; rfl
    have u1 : ub 128 = 128 := rfl
    have u2 : ub 191 = 191 := rfl
    have u3 : ub 160 = 160 := rfl
    have u4 : ub 159 = 159 := rfl
    have ok : ∀ b c : UInt8, okc (v3 a b c) = true ↔ (0 ≤ v3 a b c ∧ v3 a b c ≤ 1114111 ∧ (v3 a b c < 55296 ∨ 57343 < v3 a b c)) := fun b c => decide_eq_true_iff
    by_cases h5 : ub a = 224
    · refine key 19 160 191 (by unfold cls; rw [if_neg (by omega), if_neg (by omega), if_neg (by omega), if_pos (by omega)]) rfl rfl (by decide) (by decide) fun b c hc => ?_
      have := ub_lt b
      have := ub_lt c
      have := hc.1
      have := hc.2
      rw [ok]; unfold v3 cont; omega
    by_cases h6 : ub a = 237
    · refine key 35 128 159 (by unfold cls; rw [if_neg (by omega), if_neg (by omega), if_neg (by omega), if_neg (by omega), if_neg (by omega), if_pos (by omega)]) rfl rfl (by decide) (by decide) fun b c hc => ?_
      have := ub_lt b
      have := ub_lt c
      have := hc.1
      have := hc.2
      rw [ok]; unfold v3 cont; omega
    · refine key 3 128 191 (by
        unfold cls
        by_cases h7 : ub a < 237
        · rw [if_neg (by omega), if_neg (by omega), if_neg (by omega), if_neg (by omega), if_pos (by omega)]
        · rw [if_neg (by omega), if_neg (by omega), if_neg (by omega), if_neg (by omega), if_neg (by omega), if_neg (by omega), if_pos (by omega)]) rfl rfl (by decide) (by decide) fun b c hc => ?_
      have := ub_lt b
      have := ub_lt c
      have := hc.1
      have := hc.2
      rw [ok]; unfold v3 cont; omega
  rw [if_neg h4]
  by_cases h5 : ub a < 245
  · rw [if_pos h5]
    have key : ∀ (x1 l h : UInt8), cls a = x1 → Nat.ble (UInt8.toNat 240) x1.toNat = false → tab1[(Int.toNat (ub (shrB x1 4)))]? = some (l, h) → ub (shrB x1 4) < 16 → IntKind.wrap .i64 (ub (x1 &&& 7)) = 4 →
        (∀ b c d : UInt8, cont c → cont d → ((ub l ≤ ub b ∧ ub b ≤ ub h) ↔ (cont b ∧ 65536 ≤ v4 a b c d ∧ okc (v4 a b c d) = true))) → drs n (a :: r) = some (dp (match (generalizing := false) r with
          | b :: c :: d :: _ => if cont b ∧ cont c ∧ cont d ∧ 65536 ≤ v4 a b c d ∧ okc (v4 a b c d) = true then some (v4 a b c d, 4) else none
          | _ => none)) := by
      intro x1 l h e1 e2 e3 e4 e5 e6
      rw [two a x1 r n e1 e2 l h e3 e4 4 e5 hr]
      match r, hr with
      | [], _ => rfl
      | [b], _ => rfl
      | [b, c], _ => rfl
      | b :: c :: d :: s, hr =>
        rw [ilt_f (show (4 : Int) ≤ (((b :: c :: d :: s).length + 1 : Nat) : Int) by simp only [List.length_cons]; omega)]
        simp only [cond_false, List.getElem?_cons_zero, List.getElem?_cons_succ, Option.bind_some]
        by_cases hc : cont c
        · by_cases hd : cont d
          · have e := e6 b c d hc hd
            by_cases q : ub l ≤ ub b ∧ ub b ≤ ub h
            · have := e.1 q
              rw [if_pos q, if_pos hc, if_pos hd, if_pos ⟨this.1, hc, hd, this.2⟩]; rfl
            · rw [if_neg q, if_neg (fun hh => q (e.2 ⟨hh.1, hh.2.2.2⟩))]; rfl
          · rw [if_neg hd, if_neg (show ¬ (cont b ∧ cont c ∧ cont d ∧ 65536 ≤ v4 a b c d ∧ okc (v4 a b c d) = true) from fun hh => hd hh.2.2.1), if_pos hc]
            by_cases q : ub l ≤ ub b ∧ ub b ≤ ub h
            · rw [if_pos q]; rfl
            · rw [if_neg q]; rfl
        · rw [if_neg hc, if_neg (show ¬ (cont b ∧ cont c ∧ cont d ∧ 65536 ≤ v4 a b c d ∧ okc (v4 a b c d) = true) from fun hh => hc hh.2.1)]
          by_cases q : ub l ≤ ub b ∧ ub b ≤ ub h
          · rw [if_pos q]; rfl
          · rw [if_neg q]; rfl
    have u1 : ub 128 = 128 := rfl
    have u2 : ub 191 = 191 := rfl
    have u3 : ub 144 = 144 := rfl
    have u4 : ub 143 = 143 := rfl
    have ok : ∀ b c d : UInt8, okc (v4 a b c d) = true ↔ (0 ≤ v4 a b c d ∧ v4 a b c d ≤ 1114111 ∧ (v4 a b c d < 55296 ∨ 57343 < v4 a b c d)) := fun b c d => decide_eq_true_iff
    have na : ∀ k : Nat, ub a ≠ k → ¬ a.toNat = k := fun k h1 h2 => h1 (by rw [an, h2])
    by_cases h6 : ub a = 240
    · refine key 52 144 191 (by unfold cls; rw [if_neg (by omega), if_neg (by omega), if_neg (by omega), if_neg (by omega), if_neg (by omega), if_neg (by omega), if_neg (by omega), if_pos (by omega)]) rfl rfl (by decide) (by decide) fun b c d hc hd => ?_
      have := ub_lt b
      have := ub_lt c
      have := ub_lt d
      have := hc.1
      have := hc.2
      have := hd.1
      have := hd.2
      rw [ok]; unfold v4 cont; omega
    by_cases h7 : ub a = 244
    · refine key 68 128 143 (by unfold cls; rw [if_neg (by omega), if_neg (by omega), if_neg (by omega), if_neg (by omega), if_neg (by omega), if_neg (by omega), if_neg (by omega), if_neg (by omega), if_neg (by omega), if_pos (by omega)]) rfl rfl (by decide) (by decide) fun b c d hc hd => ?_
      have := ub_lt b
      have := ub_lt c
      have := ub_lt d
      have := hc.1
      have := hc.2
      have := hd.1
      have := hd.2
      rw [ok]; unfold v4 cont; omega
    · refine key 4 128 191 (by unfold cls; rw [if_neg (by omega), if_neg (by omega), if_neg (by omega), if_neg (by omega), if_neg (by omega), if_neg (by omega), if_neg (by omega), if_neg (by omega), if_pos (by omega)]) rfl rfl (by decide) (by decide) fun b c d hc hd => ?_
      have := ub_lt b
      have := ub_lt c
      have := ub_lt d
      have := hc.1
      have := hc.2
      have := hd.1
      have := hd.2
      rw [ok]; unfold v4 cont; omega
  rw [if_neg h5]
  refine bad a r n ?_ hr
  unfold cls
  rw [if_neg (by omega), if_neg (by omega), if_neg (by omega), if_neg (by omega), if_neg (by omega), if_neg (by omega), if_neg (by omega), if_neg (by omega), if_neg (by omega), if_neg (by omega)]

theorem dr_spec (n : Nat) (a : UInt8) (r : List UInt8) (hr : r.length < 10000000) : dr n (a :: r) = some (dp (pt (a :: r))) := by
  have ha := ub_lt a
  unfold dr
  simp only [L37_2, len, List.length_cons, ilt_t (show (0 : Int) < ((r.length + 1 : Nat) : Int) by omega), ile_t (show (0 : Int) ≤ 0 by decide), cond_true, show Int.toNat 0 = 0 from rfl, List.getElem?_cons_zero, Option.bind_some, blt_ub, show ub 128 = 128 from rfl]
  by_cases h : ub a < 128
  · have hp : pt (a :: r) = some (ub a, 1) := by rw [pt.eq_def]; dsimp only; rw [if_pos h]
    rw [decide_eq_true h, hp]
    simp only [cond_true, Option.bind_some, ub_wrap32]
    rfl
  · rw [decide_eq_false h]
    simp only [cond_false, Option.bind_some, drs_spec n a r (by omega) hr]
end Go.Proofs.YtjaiiojikollmaaDoor

/- Law 1: all code points. -/
namespace Go.Proofs.YtjaiiojikollmaaDoor
open Go Go.Iv Go.Gv


attribute [local irreducible] pointR dr pt drs unitsR pairsR smallR right is form formR

def d8 : Nat → List UInt8 → Option (List Int)
  | _, [] => some []
  | 0, _ :: _ => none
  | n + 1, a :: r => match pt (a :: r) with
    | none => none
    | some (c, k) => (d8 n ((a :: r).drop k)).map (c :: ·)

theorem sR (b : List UInt8) (hb : b.length < 4194304) : ∀ (m : Nat) (r : List UInt8) (n i : Nat) (o : List Int), r.length ≤ m → b.drop i = r → i ≤ b.length → o.length + r.length < 10000000 → m + 12 ≤ n →
    L19_3 n b o (i : Int) = match d8 m r with
      | some xs => some (.inl ((o ++ xs, ()), ()))
      | none => some (.inr (((), (false, ())), ())) := by
  intro m
  induction m with
  | zero =>
    intro r n i o hm hr hi ho hn
    obtain ⟨n, rfl⟩ : ∃ k, n = k + 1 := ⟨n - 1, by omega⟩
    have : r = [] := List.length_eq_zero_iff.1 (by omega)
    subst this
    have hlen : b.length ≤ i := by simpa using hr
    simp only [L19_3, len, ilt_f (show (b.length : Int) ≤ i by omega), cond_false, d8, List.append_nil]
  | succ m ih =>
    intro r n i o hm hr hi ho hn
    obtain ⟨n, rfl⟩ : ∃ k, n = k + 1 := ⟨n - 1, by omega⟩
    have hlen : b.length = i + r.length := by rw [← hr]; simp; omega
    cases r with
    | nil =>
      simp at hlen
      simp only [L19_3, len, ilt_f (show (b.length : Int) ≤ i by omega), cond_false, d8, List.append_nil]
    | cons a r =>
      simp only [List.length_cons] at hlen hm ho
      have e0 : (Int.toNat (i : Int)) = i := rfl
      have hd0 : List.take (b.length - i) (List.drop i b) = a :: r := (tkd b i).trans hr
      simp only [L19_3, len, ilt_t (show (i : Int) < b.length by omega), ile_t (show (0 : Int) ≤ i by omega), ile_t (show (i : Int) ≤ b.length by omega), Bool.and_self, cond_true, e0, hd0, pointR_spec (n + 1) a r (by omega) (by omega), Option.bind_some, d8]
      cases hp : pt (a :: r) with
      | none => rfl
      | some q =>
        obtain ⟨c, k⟩ := q
        obtain ⟨k1, k2, k3, k4, k5⟩ := pt_ok hp
        simp only [List.length_cons] at k3
        have w : IntKind.wrap .i64 ((i : Int) + k) = ((i + k : Nat) : Int) := by rw [wrap_id] <;> omega
        have z : ((k : Int) == 0) = false := by rw [beq_eq_false_iff_ne]; omega
        have hd : b.drop (i + k) = (a :: r).drop k := by rw [← List.drop_drop, hr]
        simp only [rp, z, cond_false, List.length_cons, List.length_nil, roomle (show (o.length + (0 + 1)) * 9 ≤ 1099511627776 by omega), cond_true, w]
        rw [ih ((a :: r).drop k) n (i + k) (o ++ [c]) (by simp; omega) hd (by omega) (by simp; omega) (by omega)]
        cases d8 m ((a :: r).drop k) with
        | none => rfl
        | some xs => simp only [Option.map_some, List.append_assoc, List.cons_append, List.nil_append]

theorem smallR_spec (n : Nat) (b : List UInt8) (hb : b.length < 4194304) (hn : b.length + 12 ≤ n) : smallR n b = some (match d8 b.length b with
    | some xs => (xs, (true, ()))
    | none => ([], (false, ()))) := by
  unfold smallR
  rw [show (0 : Int) = ((0 : Nat) : Int) from rfl, sR b hb b.length b n 0 [] (by omega) rfl (by omega) (by simp; omega) hn]
  cases d8 b.length b <;> rfl

theorem sP (c65 : Int) : ∀ (m : Nat) (r : List UInt8) (n : Nat) (o : List Int), r.length ≤ m → o.length + r.length < 10000000 → m + 12 ≤ n →
    match d8 m r with
    | some xs => ∃ y, L36_0 n c65 o r = some (.inl y) ∧ y.2.2.2.1.1 = o ++ xs
    | none => ∃ x, L36_0 n c65 o r = some (.inr x) ∧ x.2.2.1.1 = 4 := by
  intro m
  induction m with
  | zero =>
    intro r n o hm ho hn
    obtain ⟨n, rfl⟩ : ∃ k, n = k + 1 := ⟨n - 1, by omega⟩
    have : r = [] := List.length_eq_zero_iff.1 (by omega)
    subst this
    simp only [L36_0, len, ilt_f (show (([] : List UInt8).length : Int) ≤ 0 by simp), cond_false, d8]
    exact ⟨_, rfl, (List.append_nil o).symm⟩
  | succ m ih =>
    intro r n o hm ho hn
    obtain ⟨n, rfl⟩ : ∃ k, n = k + 1 := ⟨n - 1, by omega⟩
    cases r with
    | nil =>
      simp only [L36_0, len, ilt_f (show (([] : List UInt8).length : Int) ≤ 0 by simp), cond_false, d8]
      exact ⟨_, rfl, (List.append_nil o).symm⟩
    | cons a r =>
      simp only [List.length_cons] at hm ho
      simp only [L36_0, len, ilt_t (show (0 : Int) < ((a :: r).length : Nat) by simp only [List.length_cons]; omega), cond_true, dr_spec (n + 1) a r (by omega), Option.bind_some, is_spec, d8]
      cases hp : pt (a :: r) with
      | none =>
        simp only [dp, notm1, Bool.not_false, cond_true, show ((65533 : Int) == 65533) = true from rfl, show ((1 : Int) == 1) = true from rfl]
        exact ⟨_, rfl, rfl⟩
      | some q =>
        obtain ⟨c, k⟩ := q
        obtain ⟨k1, k2, k3, k4, k5⟩ := pt_ok hp
        have e0 : (Int.toNat (k : Int)) = k := rfl
        have w : IntKind.wrap .i64 c = c := wrap_id (by omega) (by omega)
        have rm : room ((o.length + [c].length) * 9) = true := roomle (by simp; omega)
        simp only [dp, w, k1, Bool.not_true, cond_false, rm, cond_true, ile_t (show (0 : Int) ≤ k by omega), ile_t (show (k : Int) ≤ ((a :: r).length : Nat) by omega), Bool.and_self, e0, tkd]
        -- U+FFFD has three bytes
        have three : c = 65533 → ((k : Int) == 1) = false := fun e => by
          rw [beq_eq_false_iff_ne]
          intro hk
          have hk : k = 1 := by omega
          subst hk
          rw [pt.eq_def] at hp
          have ha := ub_lt a
          dsimp only at hp
          split at hp
          · cases hp; omega
          split at hp
          · cases hp
          split at hp
          · split at hp
            · split at hp <;> cases hp
            · cases hp
          split at hp
          · split at hp
            · split at hp <;> cases hp
            · cases hp
          split at hp
          · split at hp
            · split at hp <;> cases hp
            · cases hp
          · cases hp
        have next := ih ((a :: r).drop k) n (o ++ [c]) (by simp; omega) (by simp; omega) (by omega)
        have fin : ∀ v, v = L36_0 n c65 (o ++ [c]) ((a :: r).drop k) → match (d8 m ((a :: r).drop k)).map (c :: ·) with
            | some xs => ∃ y, v = some (.inl y) ∧ y.2.2.2.1.1 = o ++ xs
            | none => ∃ x, v = some (.inr x) ∧ x.2.2.1.1 = 4 := fun v hv => by
          subst hv
          revert next
          cases d8 m ((a :: r).drop k) with
          | none => exact id
          | some xs => exact fun ⟨y, y1, y2⟩ => ⟨y, y1, by simpa using y2⟩
        cases hc : (c == 65533) with
        | true =>
          rw [three (by simpa using hc)]
          exact fin _ rfl
        | false => exact fin _ rfl

/-! ### All -/
def pts (b : List UInt8) : List Int × Int :=
  let l := b.drop (frm b).2.toNat
  if (frm b).1 = 1 then (match d8 l.length l with
    | some xs => (xs, 0)
    | none => ([], 4))
  else if (frm b).1 = 2 ∨ (frm b).1 = 3 then (if l.length % 2 = 0 then (match prs (ch2 ((frm b).1 == 2) l) with
    | some xs => (xs, 0)
    | none => ([], 4)) else ([], 4))
  else (if l.length % 4 = 0 ∧ allc (ch4 ((frm b).1 == 4) l) = true then (ch4 ((frm b).1 == 4) l, 0) else ([], 4))

theorem pre_len' : ∀ {l b : List UInt8}, pre l b = true → l.length ≤ b.length := fun {l b} h => by
  by_cases h' : b.length < l.length
  · rw [pre_len h'] at h; cases h
  · omega
theorem frm_ok (b : List UInt8) : 0 ≤ (frm b).2 ∧ (frm b).2 ≤ b.length ∧ ((frm b).1 = 1 ∨ (frm b).1 = 2 ∨ (frm b).1 = 3 ∨ (frm b).1 = 4 ∨ (frm b).1 = 5) := by
  have ht : (tl b).2 = 0 ∧ ((tl b).1 = 1 ∨ (tl b).1 = 2 ∨ (tl b).1 = 3 ∨ (tl b).1 = 4 ∨ (tl b).1 = 5) := by
    unfold tl
    split
    · rename_i a b c d _
      cases (a == 0) <;> cases (b == 0) <;> cases (c == 0) <;> cases (d == 0) <;> decide
    · rename_i a b
      cases (a == 0) <;> cases (b == 0) <;> decide
    · rename_i a b _
      cases (a == 0) <;> cases (b == 0) <;> decide
    · decide
  unfold frm
  cases h1 : pre [0, 0, 254, 255] b with
  | true => have := pre_len' h1; simp only [List.length_cons, List.length_nil] at this; refine ⟨?_, ?_, ?_⟩ <;> simp <;> omega
  | false =>
    cases h2 : pre [255, 254, 0, 0] b with
    | true => have := pre_len' h2; simp only [List.length_cons, List.length_nil] at this; refine ⟨?_, ?_, ?_⟩ <;> simp <;> omega
    | false =>
      cases h3 : pre [254, 255] b with
      | true => have := pre_len' h3; simp only [List.length_cons, List.length_nil] at this; refine ⟨?_, ?_, ?_⟩ <;> simp <;> omega
      | false =>
        cases h4 : pre [255, 254] b with
        | true => have := pre_len' h4; simp only [List.length_cons, List.length_nil] at this; refine ⟨?_, ?_, ?_⟩ <;> simp <;> omega
        | false =>
          cases h5 : pre [239, 187, 191] b with
          | true => have := pre_len' h5; simp only [List.length_cons, List.length_nil] at this; refine ⟨?_, ?_, ?_⟩ <;> simp <;> omega
          | false => simp only [cond_false]; omega

theorem aR (l : List Int) (hl : l.length < 4194304) : ∀ (m : Nat) (r : List Int) (n i : Nat) (t : Bool), r.length ≤ m → l.drop i = r → i ≤ l.length → m + 2 ≤ n → L10_10 n l t (i : Int) = some ((l, ((t && allc r), ())), ()) := by
  intro m
  induction m with
  | zero =>
    intro r n i t hm hr hi hn
    obtain ⟨n, rfl⟩ : ∃ k, n = k + 1 := ⟨n - 1, by omega⟩
    have : r = [] := List.length_eq_zero_iff.1 (by omega)
    subst this
    have hlen : l.length ≤ i := by simpa using hr
    simp only [L10_10, len, ilt_f (show (l.length : Int) ≤ i by omega), cond_false, allc, Bool.and_true]
  | succ m ih =>
    intro r n i t hm hr hi hn
    obtain ⟨n, rfl⟩ : ∃ k, n = k + 1 := ⟨n - 1, by omega⟩
    have hlen : l.length = i + r.length := by rw [← hr]; simp; omega
    cases r with
    | nil =>
      simp at hlen
      simp only [L10_10, len, ilt_f (show (l.length : Int) ≤ i by omega), cond_false, allc, Bool.and_true]
    | cons a r =>
      simp only [List.length_cons] at hlen hm
      have e0 : (Int.toNat (i : Int)) = i := rfl
      have h0 := at_drop hr 0
      simp only [Nat.add_zero, List.getElem?_cons_zero] at h0
      have hd : l.drop (i + 1) = r := by rw [← List.drop_drop, hr]; rfl
      have w : IntKind.wrap .i64 ((i : Int) + 1) = ((i + 1 : Nat) : Int) := by rw [wrap_id] <;> omega
      simp only [L10_10, len, ilt_t (show (i : Int) < l.length by omega), ile_t (show (0 : Int) ≤ i by omega), cond_true, e0, h0, Option.bind_some, right_spec, w, allc]
      cases t with
      | true => simp only [cond_true, ih r n (i + 1) _ (by omega) hd (by omega) (by omega), Bool.true_and]
      | false => simp only [cond_false, ih r n (i + 1) _ (by omega) hd (by omega) (by omega), Bool.false_and]

theorem same_spec (l : List Int) (hl : l.length < 4194304) : ∀ (m n i : Nat), l.length - i ≤ m → m + 2 ≤ n → L14_4 n l l (i : Int) = some (.inl ((), ())) := by
  intro m
  induction m with
  | zero =>
    intro n i hm hn
    obtain ⟨n, rfl⟩ : ∃ k, n = k + 1 := ⟨n - 1, by omega⟩
    simp only [L14_4, len, ilt_f (show (l.length : Int) ≤ i by omega), cond_false]
  | succ m ih =>
    intro n i hm hn
    obtain ⟨n, rfl⟩ : ∃ k, n = k + 1 := ⟨n - 1, by omega⟩
    by_cases h : i < l.length
    · have e0 : (Int.toNat (i : Int)) = i := rfl
      have w : IntKind.wrap .i64 ((i : Int) + 1) = ((i + 1 : Nat) : Int) := by rw [wrap_id] <;> omega
      simp only [L14_4, len, ilt_t (show (i : Int) < l.length by omega), ile_t (show (0 : Int) ≤ i by omega), cond_true, e0, List.getElem?_eq_getElem h, Option.bind_some, bne_self_eq_false, cond_false, w]
      exact ih n (i + 1) (by omega) (by omega)
    · simp only [L14_4, len, ilt_f (show (l.length : Int) ≤ i by omega), cond_false]
theorem sameInts_spec (n : Nat) (l : List Int) (hl : l.length < 4194304) (hn : l.length + 2 ≤ n) : sameInts n l l = some (true, ()) := by
  unfold sameInts
  simp only [bne_self_eq_false, cond_false]
  rw [show (0 : Int) = ((0 : Nat) : Int) from rfl, same_spec l hl l.length (n + 1) 0 (by omega) (by omega)]
  rfl

theorem ch2_len (g : Bool) : ∀ (m : Nat) (l : List UInt8), l.length ≤ m → (ch2 g l).length ≤ m := by
  intro m
  induction m using Nat.strongRecOn with
  | _ m ih =>
    intro l hm
    match l, hm with
    | [], _ => simp [ch2]
    | [x], _ => simp [ch2]
    | x :: y :: r, hm =>
      simp only [List.length_cons] at hm
      have := ih (m - 2) (by omega) r (by omega)
      simp only [ch2, List.length_cons]; omega
theorem ch4_len (g : Bool) : ∀ (m : Nat) (l : List UInt8), l.length ≤ m → (ch4 g l).length ≤ m := by
  intro m
  induction m using Nat.strongRecOn with
  | _ m ih =>
    intro l hm
    match l, hm with
    | [], _ => simp [ch4]
    | [x], _ => simp [ch4]
    | [x, y], _ => simp [ch4]
    | [x, y, z], _ => simp [ch4]
    | x :: y :: z :: u :: r, hm =>
      simp only [List.length_cons] at hm
      have := ih (m - 4) (by omega) r (by omega)
      simp only [ch4, List.length_cons]; omega

theorem four_R (n : Nat) (l : List UInt8) (g : Bool) (hl : l.length < 4194304) (hn : l.length + 20 ≤ n) : (Option.bind (unitsR (n + 1) l 4 g) fun y => Option.bind (L10_10 (n + 2) y.1 y.2.1 0) fun z => bif !z.1.2.1 then some (([] : List Int), ((4 : Int), ())) else some (z.1.1, (0, ()))) =
    some (if l.length % 4 = 0 ∧ allc (ch4 g l) = true then (ch4 g l, (0, ())) else ([], (4, ()))) := by
  have := ch4_len g l.length l (by omega)
  rw [unitsR4 (n + 1) l g (by omega) (by omega)]
  simp only [Option.bind_some]
  rw [show (0 : Int) = ((0 : Nat) : Int) from rfl, aR (ch4 g l) (by omega) (ch4 g l).length (ch4 g l) (n + 2) 0 _ (by omega) rfl (by omega) (by omega)]
  simp only [Option.bind_some]
  by_cases h : l.length % 4 = 0
  · rw [decide_eq_true h]
    cases h2 : allc (ch4 g l) with
    | true => rw [if_pos ⟨h, rfl⟩]; rfl
    | false => rw [if_neg (fun hh => by cases hh.2)]; rfl
  · rw [decide_eq_false h, if_neg (fun hh => h hh.1)]; rfl

theorem pointsR_spec (n : Nat) (b : List UInt8) (hb : b.length ≤ 1048576) (hn : b.length + 40 ≤ n) : pointsR n b = some ((pts b).1, ((pts b).2, ())) := by
  obtain ⟨k1, k2, k3⟩ := frm_ok b
  unfold pointsR pts
  simp only [len, ilt_f (show (b.length : Int) ≤ 1048576 by omega), cond_false, formR_spec n b (by omega), Option.bind_some, ile_t k1, ile_t k2, Bool.and_self, cond_true, tkd]
  have hl : (b.drop (frm b).2.toNat).length ≤ b.length := by simp
  generalize b.drop (frm b).2.toNat = l at hl
  generalize hf : (frm b).1 = f at k3
  rcases k3 with rfl | rfl | rfl | rfl | rfl
  · simp only [show ((1 : Int) == 1) = true from rfl, cond_true, if_true]
    rw [smallR_spec n l (by omega) (by omega)]
    cases d8 l.length l <;> rfl
  · simp only [show ((2 : Int) == 1) = false from rfl, show ((2 : Int) == 2) = true from rfl, cond_true, cond_false, show ¬ ((2 : Int) = 1) by decide, if_false, true_or, if_true]
    rw [unitsR2 (n + 1) l true (by omega) (by omega)]
    simp only [Option.bind_some]
    by_cases h : l.length % 2 = 0
    · rw [decide_eq_true h, if_pos h]
      simp only [cond_true]
      have := ch2_len true l.length l (by omega)
      rw [pairsR_spec (n + 1) _ (by omega) (by omega)]
      cases prs (ch2 true l) <;> rfl
    · rw [decide_eq_false h, if_neg h]; rfl
  · simp only [show ((3 : Int) == 1) = false from rfl, show ((3 : Int) == 2) = false from rfl, show ((3 : Int) == 3) = true from rfl, cond_true, cond_false, show ¬ ((3 : Int) = 1) by decide, if_false, or_true, if_true]
    rw [unitsR2 (n + 1) l false (by omega) (by omega)]
    simp only [Option.bind_some]
    by_cases h : l.length % 2 = 0
    · rw [decide_eq_true h, if_pos h]
      simp only [cond_true]
      have := ch2_len false l.length l (by omega)
      rw [pairsR_spec (n + 1) _ (by omega) (by omega)]
      cases prs (ch2 false l) <;> rfl
    · rw [decide_eq_false h, if_neg h]; rfl
  · have e := four_R n l true (by omega) (by omega)
    refine Eq.trans ?_ (e.trans ?_)
    · rfl
    · simp only [show ¬ ((4 : Int) = 1) by decide, if_false, show ¬ ((4 : Int) = 2) by decide, show ¬ ((4 : Int) = 3) by decide, or_self, show ((4 : Int) == 4) = true from rfl]
      by_cases h : l.length % 4 = 0 ∧ allc (ch4 true l) = true
      · simp only [if_pos h]
      · simp only [if_neg h]
  · have e := four_R n l false (by omega) (by omega)
    refine Eq.trans ?_ (e.trans ?_)
    · rfl
    · simp only [show ¬ ((5 : Int) = 1) by decide, if_false, show ¬ ((5 : Int) = 2) by decide, show ¬ ((5 : Int) = 3) by decide, or_self, show ((5 : Int) == 4) = false from rfl]
      by_cases h : l.length % 4 = 0 ∧ allc (ch4 false l) = true
      · simp only [if_pos h]
      · simp only [if_neg h]

attribute [local irreducible] bytesR unit fits

theorem two_P (n : Nat) (l : List UInt8) (g : Bool) (g8 : Bool) (hl : l.length < 4194304) (hn : l.length + 20 ≤ n) : ∃ v, L34_0 n 0 [] l g8 0 l 2 g = some v ∧ (match v with
    | .inl y => (match p16 0 (ch2 g l) with
      | some (f, xs) => y.2.2.2.1.1 = xs ∧ y.2.2.2.2.2.2.2.2.1.1 = f ∧ (y.2.2.2.2.2.2.2.2.2.1.1.length = 0 ↔ l.length % 2 = 0)
      | none => False)
    | .inr x => p16 0 (ch2 g l) = none ∧ x.2.2.1.1 = 4) := by
  have := u2P 0 g l g8 l.length l n [] 0 (by omega) (by simp; omega) (by omega) (.inl rfl)
  revert this
  cases p16 0 (ch2 g l) with
  | none => rintro ⟨x, h1, h2⟩; exact ⟨_, h1, rfl, h2⟩
  | some q => rintro ⟨y, h1, h2, h3, h4⟩; exact ⟨_, h1, h2, h3, h4⟩

theorem points_spec (n : Nat) (b : List UInt8) (hb : b.length ≤ 1048576) (hn : b.length + 40 ≤ n) : points n b = some ((pts b).1, ((pts b).2, ())) := by
  obtain ⟨k1, k2, k3⟩ := frm_ok b
  unfold points pts
  simp only [len, ilt_f (show (b.length : Int) ≤ 1048576 by omega), cond_false, form_spec (n + 2) b (by omega), Option.bind_some, ile_t k1, ile_t k2, Bool.and_self, cond_true, tkd]
  have hl : (b.drop (frm b).2.toNat).length ≤ b.length := by simp
  generalize b.drop (frm b).2.toNat = l at hl
  generalize hf : (frm b).1 = f at k3
  rcases k3 with rfl | rfl | rfl | rfl | rfl
  · simp only [show ((1 : Int) == 2) = false from rfl, show ((1 : Int) == 3) = false from rfl, show ((1 : Int) == 4) = false from rfl, show ((1 : Int) == 5) = false from rfl, cond_false, if_true]
    have := sP 0 l.length l (n + 2) [] (by omega) (by simp; omega) (by omega)
    revert this
    cases d8 l.length l with
    | none =>
      rintro ⟨x, x1, x2⟩
      rw [x1]
      simp only [Option.bind_some, x2]
    | some xs =>
      rintro ⟨y, y1, y2⟩
      rw [y1]
      simp only [Option.bind_some, y2, List.nil_append]
  · simp only [show ((2 : Int) == 2) = true from rfl, cond_true, cond_false, show ¬ ((2 : Int) = 1) by decide, if_false, true_or, if_true]
    obtain ⟨v, h1, h2⟩ := two_P n l true true (by omega) (by omega)
    rw [h1]
    simp only [Option.bind_some]
    have hp := p16_prs (ch2 true l).length (ch2 true l) (Nat.le_refl _)
    cases v with
    | inr x =>
      obtain ⟨h3, h4⟩ := h2
      rw [h3] at hp
      rw [hp]
      simp only [h4]
      split <;> rfl
    | inl y =>
      simp only at h2
      revert h2 hp
      cases p16 0 (ch2 true l) with
      | none => exact fun _ h => h.elim
      | some q =>
        rintro hp ⟨h3, h4, h5⟩
        simp only [h3, h4, is_spec, notm1, Bool.not_false, cond_true, Option.bind_some]
        rw [hp]
        by_cases hz : y.2.2.2.2.2.2.2.2.2.1.1.length = 0
        · rw [if_pos (h5.1 hz), ilt_f (by omega)]
          simp only [cond_false]
          by_cases hq : 0 < q.1
          · rw [ilt_t hq, decide_eq_true hq]; rfl
          · rw [ilt_f (by omega), decide_eq_false hq]; rfl
        · rw [if_neg (fun h => hz (h5.2 h)), ilt_t (by omega)]
          simp only [cond_true]
          cases ilt 0 q.1 <;> rfl
  · simp only [show ((3 : Int) == 2) = false from rfl, show ((3 : Int) == 3) = true from rfl, cond_true, cond_false, show ¬ ((3 : Int) = 1) by decide, if_false, or_true, if_true]
    obtain ⟨v, h1, h2⟩ := two_P n l false false (by omega) (by omega)
    rw [h1]
    simp only [Option.bind_some]
    have hp := p16_prs (ch2 false l).length (ch2 false l) (Nat.le_refl _)
    cases v with
    | inr x =>
      obtain ⟨h3, h4⟩ := h2
      rw [h3] at hp
      rw [hp]
      simp only [h4]
      split <;> rfl
    | inl y =>
      simp only at h2
      revert h2 hp
      cases p16 0 (ch2 false l) with
      | none => exact fun _ h => h.elim
      | some q =>
        rintro hp ⟨h3, h4, h5⟩
        simp only [h3, h4, is_spec, notm1, Bool.not_false, cond_true, Option.bind_some]
        rw [hp]
        by_cases hz : y.2.2.2.2.2.2.2.2.2.1.1.length = 0
        · rw [if_pos (h5.1 hz), ilt_f (by omega)]
          simp only [cond_false]
          by_cases hq : 0 < q.1
          · rw [ilt_t hq, decide_eq_true hq]; rfl
          · rw [ilt_f (by omega), decide_eq_false hq]; rfl
        · rw [if_neg (fun h => hz (h5.2 h)), ilt_t (by omega)]
          simp only [cond_true]
          cases ilt 0 q.1 <;> rfl
  · simp only [show ((4 : Int) == 2) = false from rfl, show ((4 : Int) == 3) = false from rfl, show ((4 : Int) == 4) = true from rfl, cond_true, cond_false, show ¬ ((4 : Int) = 1) by decide, if_false, show ¬ ((4 : Int) = 2) by decide, show ¬ ((4 : Int) = 3) by decide, or_self]
    obtain ⟨q1, q2⟩ := u4P 0 true l.length l (n + 2) [] (by omega) (by simp; omega) (by omega)
    cases hc : allc (ch4 true l) with
    | true =>
      obtain ⟨s, s1, s2⟩ := q1 hc
      rw [s2]
      simp only [Option.bind_some, is_spec, notm1, Bool.not_false, cond_true, List.nil_append, and_self, _root_.and_true]
      by_cases hz : s.length = 0
      · rw [if_pos (s1.1 hz), ilt_f (by omega)]; rfl
      · rw [if_neg (fun h => hz (s1.2 h)), ilt_t (by omega)]; rfl
    | false =>
      obtain ⟨x, x1, x2⟩ := q2 hc
      rw [x1, if_neg (fun h => by cases h.2)]
      simp only [Option.bind_some, x2]
  · simp only [show ((5 : Int) == 2) = false from rfl, show ((5 : Int) == 3) = false from rfl, show ((5 : Int) == 4) = false from rfl, show ((5 : Int) == 5) = true from rfl, cond_true, cond_false, show ¬ ((5 : Int) = 1) by decide, if_false, show ¬ ((5 : Int) = 2) by decide, show ¬ ((5 : Int) = 3) by decide, or_self]
    obtain ⟨q1, q2⟩ := u4P 0 false l.length l (n + 2) [] (by omega) (by simp; omega) (by omega)
    cases hc : allc (ch4 false l) with
    | true =>
      obtain ⟨s, s1, s2⟩ := q1 hc
      rw [s2]
      simp only [Option.bind_some, is_spec, notm1, Bool.not_false, cond_true, List.nil_append, and_self, _root_.and_true]
      by_cases hz : s.length = 0
      · rw [if_pos (s1.1 hz), ilt_f (by omega)]; rfl
      · rw [if_neg (fun h => hz (s1.2 h)), ilt_t (by omega)]; rfl
    | false =>
      obtain ⟨x, x1, x2⟩ := q2 hc
      rw [x1, if_neg (fun h => by cases h.2)]
      simp only [Option.bind_some, x2]

theorem pts_len (b : List UInt8) : (pts b).1.length ≤ b.length := by
  have hd : ∀ (m : Nat) (l : List UInt8) (xs : List Int), d8 m l = some xs → xs.length ≤ l.length := by
    intro m
    induction m with
    | zero =>
      intro l xs h
      cases l with
      | nil => cases h; simp
      | cons a r => cases h
    | succ m ih =>
      intro l xs h
      cases l with
      | nil => cases h; simp
      | cons a r =>
        simp only [d8] at h
        cases hp : pt (a :: r) with
        | none => rw [hp] at h; cases h
        | some q =>
          rw [hp] at h
          obtain ⟨c, k⟩ := q
          obtain ⟨_, k2, k3, _⟩ := pt_ok hp
          simp only at h
          obtain ⟨ys, hy, rfl⟩ := Option.map_eq_some_iff.1 h
          have := ih _ _ hy
          simp only [List.length_drop, List.length_cons] at this k3 ⊢
          omega
  have hpr : ∀ (m : Nat) (l xs : List Int), l.length ≤ m → prs l = some xs → xs.length ≤ l.length := by
    intro m
    induction m using Nat.strongRecOn with
    | _ m ih =>
      intro l xs hm h
      match l, hm, h with
      | [], _, h => cases h; simp
      | c :: r, hm, h =>
        simp only [List.length_cons] at hm
        rw [prs_cons] at h
        cases hc : hi c with
        | true =>
          rw [hc] at h
          match r, hm, h with
          | [], _, h => cases h
          | d :: s, hm, h =>
            simp only [List.length_cons] at hm
            simp only [cond_true, prs2] at h
            cases hl : lo d with
            | false => rw [hl] at h; cases h
            | true =>
              rw [hl] at h
              obtain ⟨ys, hy, rfl⟩ := Option.map_eq_some_iff.1 h
              have := ih (m - 2) (by omega) s ys (by omega) hy
              simp only [List.length_cons]; omega
        | false =>
          rw [hc] at h
          cases hk : okc c with
          | false => rw [hk] at h; cases h
          | true =>
            rw [hk] at h
            obtain ⟨ys, hy, rfl⟩ := Option.map_eq_some_iff.1 h
            have := ih (m - 1) (by omega) r ys (by omega) hy
            simp only [List.length_cons]; omega
  unfold pts
  have hl : (b.drop (frm b).2.toNat).length ≤ b.length := by simp
  generalize b.drop (frm b).2.toNat = l at hl
  dsimp only
  split
  · split
    · rename_i xs h
      have := hd _ _ _ h
      exact Nat.le_trans this hl
    · simp
  split
  · split
    · split
      · rename_i xs h
        exact Nat.le_trans (hpr _ _ _ (Nat.le_refl _) h) (Nat.le_trans (ch2_len _ _ l (Nat.le_refl _)) hl)
      · simp
    · simp
  · split
    · exact Nat.le_trans (ch4_len _ _ l (Nat.le_refl _)) hl
    · simp

theorem utfPoints_spec (b : List UInt8) : utfPoints 3000 b = some (true, ()) := by
  unfold utfPoints
  simp only [alive, Option.bind_some, Bool.not_true, cond_false, len]
  by_cases h : 2000 < b.length
  · rw [ilt_t (by omega)]; rfl
  · rw [ilt_f (by omega)]
    simp only [cond_false]
    rw [points_spec (3000 + 6) b (by omega) (by omega), pointsR_spec (3000 + 8) b (by omega) (by omega), form_spec (3000 + 9) b (by omega), formR_spec (3000 + 9) b (by omega)]
    have := pts_len b
    simp only [Option.bind_some, beq_self_eq_true, cond_true]
    rw [sameInts_spec (3000 + 10) _ (by omega) (by omega)]
    rfl
end Go.Proofs.YtjaiiojikollmaaDoor

/- Law 1: the bytes of code points. -/
namespace Go.Proofs.YtjaiiojikollmaaDoor
open Go Go.Iv Go.Gv

def by8 (x : Int) : UInt8 := UInt8.ofNat x.toNat
theorem ub_by {x : Int} (h1 : 0 ≤ x) (h2 : x < 256) : ub (by8 x) = x := by
  unfold ub by8; rw [UInt8.toNat_ofNat']; omega
theorem by_u8 {x : Int} (h1 : 0 ≤ x) : UInt8.ofNat (Int.toNat (IntKind.wrap .u8 x)) = by8 x := by
  unfold by8
  rw [IntKind.wrap_u8]
  apply UInt8.toNat_inj.1
  rw [UInt8.toNat_ofNat', UInt8.toNat_ofNat']
  omega
theorem u8or (k i : Nat) (y : Int) (h0 : 0 ≤ y) (h1 : y < 2 ^ i) (h2 : k * 2 ^ i < 256) (h3 : (k * 2 ^ i : Nat) + y < 256) (h4 : i ≤ 8) : UInt8.ofNat (k * 2 ^ i) ||| by8 y = by8 ((k * 2 ^ i : Nat) + y) := by
  unfold by8
  apply UInt8.toNat_inj.1
  have hp : (2 : Int) ^ i = ((2 ^ i : Nat) : Int) := by rw [Int.natCast_pow]; rfl
  rw [hp] at h1
  have h5 : y.toNat < 2 ^ i := by omega
  have e : ((k * 2 ^ i : Nat) + y).toNat = k * 2 ^ i + y.toNat := by omega
  rw [UInt8.toNat_or, UInt8.toNat_ofNat', UInt8.toNat_ofNat', UInt8.toNat_ofNat', e, Nat.mod_eq_of_lt h2, Nat.mod_eq_of_lt (by omega), Nat.mod_eq_of_lt (by omega), Nat.mul_comm k, Nat.two_pow_add_eq_or_of_lt h5]
theorem u8and63 {y : Int} (h0 : 0 ≤ y) : by8 y &&& 63 = by8 (y % 64) := by
  unfold by8
  apply UInt8.toNat_inj.1
  have e : (63 : UInt8).toNat = 2 ^ 6 - 1 := rfl
  rw [UInt8.toNat_and, e, Nat.and_two_pow_sub_one_eq_mod, UInt8.toNat_ofNat', UInt8.toNat_ofNat']
  omega

/-- What is none becomes U+FFFD. -/
def fx (c : Int) : Int := bif okc c then c else 65533
theorem fx_ok (c : Int) : okc (fx c) = true := by
  unfold fx
  cases h : okc c with
  | true => exact h
  | false => rfl
def en (c : Int) : List UInt8 :=
  if c < 128 then [by8 c] else if c < 2048 then [by8 (192 + c / 64), by8 (128 + c % 64)]
  else if c < 65536 then [by8 (224 + c / 4096), by8 (128 + c / 64 % 64), by8 (128 + c % 64)]
  else [by8 (240 + c / 262144), by8 (128 + c / 4096 % 64), by8 (128 + c / 64 % 64), by8 (128 + c % 64)]
def enL : List Int → List UInt8
  | [] => []
  | c :: r => en (fx c) ++ enL r

theorem en_len (c : Int) : 1 ≤ (en c).length ∧ (en c).length ≤ 4 := by
  unfold en
  split
  · simp
  split
  · simp
  split <;> simp

theorem pt_en {c : Int} (h : okc c = true) (r : List UInt8) : pt (en c ++ r) = some (c, (en c).length) := by
  have hc := of_decide_eq_true h
  unfold en
  by_cases h1 : c < 128
  · rw [if_pos h1, pt.eq_def]
    simp only [List.cons_append, List.nil_append]
    rw [ub_by (by omega) (by omega), if_pos h1]; rfl
  rw [if_neg h1]
  by_cases h2 : c < 2048
  · rw [if_pos h2, pt.eq_def]
    simp only [List.cons_append, List.nil_append]
    have a0 := ub_by (x := 192 + c / 64) (by omega) (by omega)
    have a1 := ub_by (x := 128 + c % 64) (by omega) (by omega)
    rw [a0, if_neg (by omega), if_neg (by omega), if_pos (by omega), if_pos ⟨by rw [a1]; omega, by rw [a1]; omega⟩]
    unfold v2
    rw [a0, a1]
    congr 2
    omega
  rw [if_neg h2]
  by_cases h3 : c < 65536
  · rw [if_pos h3, pt.eq_def]
    simp only [List.cons_append, List.nil_append]
    have a0 := ub_by (x := 224 + c / 4096) (by omega) (by omega)
    have a1 := ub_by (x := 128 + c / 64 % 64) (by omega) (by omega)
    have a2 := ub_by (x := 128 + c % 64) (by omega) (by omega)
    have e : v3 (by8 (224 + c / 4096)) (by8 (128 + c / 64 % 64)) (by8 (128 + c % 64)) = c := by
      unfold v3; rw [a0, a1, a2]; omega
    rw [a0, if_neg (by omega), if_neg (by omega), if_neg (by omega), if_pos (by omega), if_pos ⟨⟨by rw [a1]; omega, by rw [a1]; omega⟩, ⟨by rw [a2]; omega, by rw [a2]; omega⟩, by rw [e]; omega, by rw [e]; exact h⟩, e]
    rfl
  rw [if_neg h3, pt.eq_def]
  simp only [List.cons_append, List.nil_append]
  have a0 := ub_by (x := 240 + c / 262144) (by omega) (by omega)
  have a1 := ub_by (x := 128 + c / 4096 % 64) (by omega) (by omega)
  have a2 := ub_by (x := 128 + c / 64 % 64) (by omega) (by omega)
  have a3 := ub_by (x := 128 + c % 64) (by omega) (by omega)
  have e : v4 (by8 (240 + c / 262144)) (by8 (128 + c / 4096 % 64)) (by8 (128 + c / 64 % 64)) (by8 (128 + c % 64)) = c := by
    unfold v4; rw [a0, a1, a2, a3]; omega
  rw [a0, if_neg (by omega), if_neg (by omega), if_neg (by omega), if_neg (by omega), if_pos (by omega), if_pos ⟨⟨by rw [a1]; omega, by rw [a1]; omega⟩, ⟨by rw [a2]; omega, by rw [a2]; omega⟩, ⟨by rw [a3]; omega, by rw [a3]; omega⟩, by rw [e]; omega, by rw [e]; exact h⟩, e]
  rfl

theorem d8_en : ∀ (l : List Int) (m : Nat), l.length ≤ m → d8 m (enL l) = some (l.map fx) := by
  intro l
  induction l with
  | nil => intro m _; cases m <;> rfl
  | cons c r ih =>
    intro m hm
    obtain ⟨m, rfl⟩ : ∃ k, m = k + 1 := ⟨m - 1, by simp at hm; omega⟩
    simp only [List.length_cons] at hm
    have hp := pt_en (fx_ok c) (enL r)
    have hl := en_len (fx c)
    show d8 (m + 1) (en (fx c) ++ enL r) = _
    cases he : en (fx c) ++ enL r with
    | nil =>
      have := congrArg List.length he
      simp only [List.length_append, List.length_nil] at this; omega
    | cons a s =>
      rw [he] at hp
      simp only [d8, hp]
      rw [← he, List.drop_left, ih m (by omega)]
      rfl
theorem enL_len (l : List Int) : l.length ≤ (enL l).length ∧ (enL l).length ≤ 4 * l.length := by
  induction l with
  | nil => simp [enL]
  | cons c r ih =>
    have := en_len (fx c)
    simp only [enL, List.length_append, List.length_cons]; omega

/-! ### The document's -/
theorem i64shr6 (x : Int) : shrI .i64 x 6 = x / 64 := shrI_i64 x 6 (by decide)
theorem i64shr12 (x : Int) : shrI .i64 x 12 = x / 4096 := shrI_i64 x 12 (by decide)
theorem i64shr18 (x : Int) : shrI .i64 x 18 = x / 262144 := shrI_i64 x 18 (by decide)
theorem and63' {x : Int} (h1 : 0 ≤ x) (h2 : x ≤ 1114111) : andI .i64 x 63 = x % 64 := andI_i64 6 (by decide) x h1 (by omega)
theorem or128 {y : Int} (h1 : 0 ≤ y) (h2 : y < 128) : orI .i64 128 y = 128 + y := orI_i64 7 128 y (by decide) (by decide) (by decide) h1 (by omega) (by omega)
theorem or192 {y : Int} (h1 : 0 ≤ y) (h2 : y < 64) : orI .i64 192 y = 192 + y := orI_i64 6 192 y (by decide) (by decide) (by decide) h1 (by omega) (by omega)
theorem or224 {y : Int} (h1 : 0 ≤ y) (h2 : y < 32) : orI .i64 224 y = 224 + y := orI_i64 5 224 y (by decide) (by decide) (by decide) h1 (by omega) (by omega)
theorem or240 {y : Int} (h1 : 0 ≤ y) (h2 : y < 16) : orI .i64 240 y = 240 + y := orI_i64 4 240 y (by decide) (by decide) (by decide) h1 (by omega) (by omega)

theorem en_fffd : en 65533 = [239, 191, 189] := by decide

theorem bR (l : List Int) (hl : l.length < 100000) : ∀ (m : Nat) (r : List Int) (n i : Nat) (o : List UInt8), r.length ≤ m → l.drop i = r → i ≤ l.length → o.length + 4 * r.length < 10000000 → m + 4 ≤ n →
    L16_3 n l o (i : Int) = some ((o ++ enL r, ()), ()) := by
  intro m
  induction m with
  | zero =>
    intro r n i o hm hr hi ho hn
    obtain ⟨n, rfl⟩ : ∃ k, n = k + 1 := ⟨n - 1, by omega⟩
    have : r = [] := List.length_eq_zero_iff.1 (by omega)
    subst this
    have hlen : l.length ≤ i := by simpa using hr
    simp only [L16_3, len, ilt_f (show (l.length : Int) ≤ i by omega), cond_false, enL, List.append_nil]
  | succ m ih =>
    intro r n i o hm hr hi ho hn
    obtain ⟨n, rfl⟩ : ∃ k, n = k + 1 := ⟨n - 1, by omega⟩
    have hlen : l.length = i + r.length := by rw [← hr]; simp; omega
    cases r with
    | nil =>
      simp at hlen
      simp only [L16_3, len, ilt_f (show (l.length : Int) ≤ i by omega), cond_false, enL, List.append_nil]
    | cons c r =>
      simp only [List.length_cons] at hlen hm ho
      have e0 : (Int.toNat (i : Int)) = i := rfl
      have h0 := at_drop hr 0
      simp only [Nat.add_zero, List.getElem?_cons_zero] at h0
      have hd : l.drop (i + 1) = r := by rw [← List.drop_drop, hr]; rfl
      have w : IntKind.wrap .i64 ((i : Int) + 1) = ((i + 1 : Nat) : Int) := by rw [wrap_id] <;> omega
      have rm : ∀ k, k ≤ 4 → room ((o.length + k) * 2) = true := fun k hk => roomle (by omega)
      simp only [L16_3, len, ilt_t (show (i : Int) < l.length by omega), ile_t (show (0 : Int) ≤ i by omega), cond_true, e0, h0, Option.bind_some, right_spec, w, List.length_cons, List.length_nil, rm (0 + 1) (by omega), rm (0 + 1 + 1) (by omega), rm (0 + 1 + 1 + 1) (by omega), rm (0 + 1 + 1 + 1 + 1) (by omega), enL]
      have next : ∀ k : List UInt8, k = en (fx c) → L16_3 n l (o ++ k) ((i + 1 : Nat) : Int) = some ((o ++ (en (fx c) ++ enL r), ()), ()) := fun k hk => by
        subst hk
        have := en_len (fx c)
        rw [ih r n (i + 1) _ (by omega) hd (by omega) (by simp; omega) (by omega), List.append_assoc]
      cases hk : okc c with
      | false =>
        have hf : fx c = 65533 := by unfold fx; rw [hk]; rfl
        simp only [Bool.not_false, cond_true]
        exact next _ (by rw [hf, en_fffd])
      | true =>
        have hf : fx c = c := by unfold fx; rw [hk]; rfl
        have hc := of_decide_eq_true hk
        simp only [Bool.not_true, cond_false]
        unfold en at next
        rw [hf] at next ⊢
        by_cases h1 : c < 128
        · rw [ilt_t h1]
          simp only [cond_true]
          exact next _ (by rw [if_pos h1, by_u8 (by omega)])
        rw [ilt_f (by omega)]
        simp only [cond_false]
        by_cases h2 : c < 2048
        · rw [ilt_t h2]
          simp only [cond_true]
          exact next _ (by rw [if_neg h1, if_pos h2, i64shr6, and63' (by omega) (by omega), or192 (by omega) (by omega), or128 (by omega) (by omega), by_u8 (by omega), by_u8 (by omega)])
        rw [ilt_f (by omega)]
        simp only [cond_false]
        by_cases h3 : c < 65536
        · rw [ilt_t h3]
          simp only [cond_true]
          exact next _ (by rw [if_neg h1, if_neg h2, if_pos h3, i64shr6, i64shr12, and63' (x := c / 64) (by omega) (by omega), and63' (x := c) (by omega) (by omega), or224 (by omega) (by omega), or128 (by omega) (by omega), or128 (by omega) (by omega), by_u8 (by omega), by_u8 (by omega), by_u8 (by omega)])
        rw [ilt_f (by omega)]
        simp only [cond_false]
        exact next _ (by rw [if_neg h1, if_neg h2, if_neg h3, i64shr6, i64shr12, i64shr18, and63' (x := c / 4096) (by omega) (by omega), and63' (x := c / 64) (by omega) (by omega), and63' (x := c) (by omega) (by omega), or240 (by omega) (by omega), or128 (by omega) (by omega), or128 (by omega) (by omega), or128 (by omega) (by omega), by_u8 (by omega), by_u8 (by omega), by_u8 (by omega), by_u8 (by omega)])

/-! ### The program's -/
theorem i32id {x : Int} (h1 : 0 ≤ x) (h2 : x ≤ 1114111) : IntKind.wrap .i32 x = x := by rw [IntKind.wrap_i32]; omega
theorem u32id {x : Int} (h1 : 0 ≤ x) (h2 : x ≤ 1114111) : IntKind.wrap .u32 x = x := by rw [IntKind.wrap_u32]; omega
theorem i32shr6 (x : Int) : shrI .i32 x 6 = x / 64 := shrI_i32 x 6 (by decide)
theorem i32shr12 (x : Int) : shrI .i32 x 12 = x / 4096 := shrI_i32 x 12 (by decide)
theorem i32shr18 (x : Int) : shrI .i32 x 18 = x / 262144 := shrI_i32 x 18 (by decide)
theorem b128 {y : Int} (h0 : 0 ≤ y) (h1 : y < 128) : (128 : UInt8) ||| by8 y = by8 (128 + y) := u8or 1 7 y h0 (by omega) (by decide) (by omega) (by decide)
theorem b192 {y : Int} (h0 : 0 ≤ y) (h1 : y < 64) : (192 : UInt8) ||| by8 y = by8 (192 + y) := u8or 3 6 y h0 (by omega) (by decide) (by omega) (by decide)
theorem b224 {y : Int} (h0 : 0 ≤ y) (h1 : y < 32) : (224 : UInt8) ||| by8 y = by8 (224 + y) := u8or 7 5 y h0 (by omega) (by decide) (by omega) (by decide)
theorem b240 {y : Int} (h0 : 0 ≤ y) (h1 : y < 16) : (240 : UInt8) ||| by8 y = by8 (240 + y) := u8or 15 4 y h0 (by omega) (by decide) (by omega) (by decide)
theorem fffd : [(224 : UInt8) ||| 15, 128 ||| (255 &&& 63), 128 ||| (253 &&& 63)] = [239, 191, 189] := by decide

theorem bP (l : List Int) (hl : l.length < 100000) : ∀ (m : Nat) (r : List Int) (n i : Nat) (o : List UInt8), r.length ≤ m → l.drop i = r → i ≤ l.length → o.length + 4 * r.length < 10000000 → m + 4 ≤ n →
    L15_3 n o l (len l) (i : Int) = some ((o ++ enL r, ()), ()) := by
  intro m
  induction m with
  | zero =>
    intro r n i o hm hr hi ho hn
    obtain ⟨n, rfl⟩ : ∃ k, n = k + 1 := ⟨n - 1, by omega⟩
    have : r = [] := List.length_eq_zero_iff.1 (by omega)
    subst this
    have hlen : l.length ≤ i := by simpa using hr
    simp only [L15_3, len, ilt_f (show (l.length : Int) ≤ i by omega), cond_false, enL, List.append_nil]
  | succ m ih =>
    intro r n i o hm hr hi ho hn
    obtain ⟨n, rfl⟩ : ∃ k, n = k + 1 := ⟨n - 1, by omega⟩
    have hlen : l.length = i + r.length := by rw [← hr]; simp; omega
    cases r with
    | nil =>
      simp at hlen
      simp only [L15_3, len, ilt_f (show (l.length : Int) ≤ i by omega), cond_false, enL, List.append_nil]
    | cons c r =>
      simp only [List.length_cons] at hlen hm ho
      have e0 : (Int.toNat (i : Int)) = i := rfl
      have h0 := at_drop hr 0
      simp only [Nat.add_zero, List.getElem?_cons_zero] at h0
      have hd : l.drop (i + 1) = r := by rw [← List.drop_drop, hr]; rfl
      have w : IntKind.wrap .i64 ((i : Int) + 1) = ((i + 1 : Nat) : Int) := by rw [wrap_id] <;> omega
      have rm : ∀ k, k ≤ 4 → room ((o.length + k) * 2) = true := fun k hk => roomle (by omega)
      have next : ∀ k : List UInt8, k = en (fx c) → L15_3 n (o ++ k) l (l.length : Int) ((i + 1 : Nat) : Int) = some ((o ++ (en (fx c) ++ enL r), ()), ()) := fun k hk => by
        subst hk
        have := en_len (fx c)
        have h := ih r n (i + 1) (o ++ en (fx c)) (by omega) hd (by omega) (by simp; omega) (by omega)
        rw [List.append_assoc] at h
        exact h
      unfold L15_3
      simp only [len, ilt_t (show (i : Int) < l.length by omega), ile_t (show (0 : Int) ≤ i by omega), cond_true, e0, h0, Option.bind_some, is_spec, w, List.length_cons, List.length_nil, rm (0 + 1) (by omega), rm (0 + 1 + 1) (by omega), rm (0 + 1 + 1 + 1) (by omega), rm (0 + 1 + 1 + 1 + 1) (by omega), enL, fffd]
      cases hk : okc c with
      | false =>
        have hf : fx c = 65533 := by unfold fx; rw [hk]; rfl
        simp only [Bool.not_false, cond_true]
        exact next _ (by rw [hf, en_fffd])
      | true =>
        have hf : fx c = c := by unfold fx; rw [hk]; rfl
        have hc := of_decide_eq_true hk
        have i32 := i32id (x := c) (by omega) (by omega)
        have u32 := u32id (x := c) (by omega) (by omega)
        simp only [Bool.not_true, cond_false, i32, u32, i32shr6, i32shr12, i32shr18, by_u8 (x := c) (by omega), by_u8 (x := c / 64) (by omega), by_u8 (x := c / 4096) (by omega), by_u8 (x := c / 262144) (by omega), u8and63 (y := c) (by omega), u8and63 (y := c / 64) (by omega), u8and63 (y := c / 4096) (by omega)]
        unfold en at next
        rw [hf] at next ⊢
        by_cases h1 : c < 128
        · rw [ile_t (show c ≤ 127 by omega)]
          simp only [cond_true]
          rw [next _ (by rw [if_pos h1])]; rfl
        rw [ile_f (show 127 < c by omega)]
        simp only [cond_false]
        by_cases h2 : c < 2048
        · rw [ile_t (show c ≤ 2047 by omega)]
          simp only [cond_true]
          exact next _ (by rw [if_neg h1, if_pos h2, b192 (by omega) (by omega), b128 (by omega) (by omega)])
        rw [ile_f (show 2047 < c by omega)]
        simp only [cond_false]
        by_cases h3 : c < 65536
        · have fin := next _ (show [(224 : UInt8) ||| by8 (c / 4096), 128 ||| by8 (c / 64 % 64), 128 ||| by8 (c % 64)] = _ by rw [if_neg h1, if_neg h2, if_pos h3, b224 (by omega) (by omega), b128 (by omega) (by omega), b128 (by omega) (by omega)])
          by_cases h4 : c < 55296
          · rw [ilt_t h4]
            simp only [cond_true]
            exact fin
          · rw [ilt_f (show 55296 ≤ c by omega), ilt_t (show 57343 < c by omega), ile_t (show c ≤ 65535 by omega)]
            simp only [cond_true, cond_false]
            exact fin
        rw [ilt_f (show 55296 ≤ c by omega), ilt_t (show 57343 < c by omega), ile_f (show 65535 < c by omega), ilt_t (show 65535 < c by omega), ile_t (show c ≤ 1114111 by omega)]
        simp only [cond_true, cond_false]
        exact next _ (by rw [if_neg h1, if_neg h2, if_neg h3, b240 (by omega) (by omega), b128 (by omega) (by omega), b128 (by omega) (by omega), b128 (by omega) (by omega)])

theorem bytesR_spec (n : Nat) (l : List Int) (hl : l.length < 100000) (hn : l.length + 4 ≤ n) : bytesR n l = some (enL l, ()) := by
  unfold bytesR
  rw [show (0 : Int) = ((0 : Nat) : Int) from rfl, bR l hl l.length l n 0 [] (by omega) rfl (by omega) (by simp; omega) hn]
  rfl
theorem bytes_spec (n : Nat) (l : List Int) (hl : l.length < 100000) (hn : l.length + 4 ≤ n) : bytes n l = some (enL l, ()) := by
  unfold bytes
  rw [show (0 : Int) = ((0 : Nat) : Int) from rfl, bP l hl l.length l n 0 [] (by omega) rfl (by omega) (by simp; omega) hn]
  rfl

theorem pts_en (l : List Int) : pts (239 :: 187 :: 191 :: enL l) = (l.map fx, 0) := by
  have hf : frm (239 :: 187 :: 191 :: enL l) = (1, 3) := rfl
  unfold pts
  rw [hf]
  simp only [show (Int.toNat 3) = 3 from rfl, List.drop_succ_cons, List.drop_zero, if_true]
  rw [d8_en l _ (enL_len l).1]

theorem chk (l : List Int) (hl : l.length < 100000) : ∀ (m n i : Nat), l.length - i ≤ m → m + 2 ≤ n → L7_11 n l (l.map fx) (i : Int) = some (.inl ((), ())) := by
  intro m
  induction m with
  | zero =>
    intro n i hm hn
    obtain ⟨n, rfl⟩ : ∃ k, n = k + 1 := ⟨n - 1, by omega⟩
    simp only [L7_11, len, ilt_f (show (l.length : Int) ≤ i by omega), cond_false]
  | succ m ih =>
    intro n i hm hn
    obtain ⟨n, rfl⟩ : ∃ k, n = k + 1 := ⟨n - 1, by omega⟩
    by_cases h : i < l.length
    · have e0 : (Int.toNat (i : Int)) = i := rfl
      have w : IntKind.wrap .i64 ((i : Int) + 1) = ((i + 1 : Nat) : Int) := by rw [wrap_id] <;> omega
      have next := ih n (i + 1) (by omega) (by omega)
      simp only [L7_11, len, ilt_t (show (i : Int) < l.length by omega), ile_t (show (0 : Int) ≤ i by omega), cond_true, e0, List.getElem?_map, List.getElem?_eq_getElem h, Option.map_some, Option.bind_some, w, next]
      generalize l[i] = c
      unfold fx okc
      by_cases h1 : c < 0
      · rw [ilt_t h1, decide_eq_false (by omega)]; rfl
      rw [ilt_f (by omega)]
      by_cases h2 : 1114111 < c
      · rw [ilt_t h2, decide_eq_false (by omega)]; rfl
      rw [ilt_f (by omega)]
      by_cases h3 : 55296 ≤ c
      · rw [ile_t h3]
        by_cases h4 : c ≤ 57343
        · rw [ile_t h4, decide_eq_false (by omega)]; rfl
        · rw [ile_f (by omega), decide_eq_true (by omega)]
          simp only [cond_true, cond_false, bne_self_eq_false]
      · rw [ile_f (by omega), decide_eq_true (by omega)]
        simp only [cond_true, cond_false, bne_self_eq_false]
    · simp only [L7_11, len, ilt_f (show (l.length : Int) ≤ i by omega), cond_false]

theorem utfBytes_spec (l : List Int) : utfBytes 6000 l = some (true, ()) := by
  unfold utfBytes
  simp only [alive, Option.bind_some, Bool.not_true, cond_false, len]
  by_cases h : 1000 < l.length
  · rw [ilt_t (by omega)]; rfl
  rw [ilt_f (by omega), bytes_spec (6000 + 9) l (by omega) (by omega), bytesR_spec (6000 + 9) l (by omega) (by omega)]
  have hl := enL_len l
  simp only [cond_false, Option.bind_some, beq_self_eq_true, Bool.not_true, List.length_cons, List.length_nil, roomle (show (0 + 1 + 1 + 1 + (enL l).length) * 2 ≤ 1099511627776 by omega), cond_true]
  have := points_spec (6000 + 6) (239 :: 187 :: 191 :: enL l) (by simp only [List.length_cons]; omega) (by simp only [List.length_cons]; omega)
  rw [pts_en] at this
  refine (congrArg (fun z => Option.bind z _) this).trans ?_
  simp only [Option.bind_some, bne_self_eq_false, cond_false, List.length_map]
  rw [show (0 : Int) = ((0 : Nat) : Int) from rfl, chk l (by omega) l.length (6000 + 12) 0 (by omega) (by omega)]
  rfl
end Go.Proofs.YtjaiiojikollmaaDoor

/- Law 1: code points by twos and fours of bytes. -/
namespace Go.Proofs.YtjaiiojikollmaaDoor
open Go Go.Iv Go.Gv

def pw (g : Bool) (s k : Nat) : Nat := 8 * (bif g then s - 1 - k else k)

theorem shrI_pw {u : Int} (j : Nat) (hj : j ≤ 64) : shrI .i64 u j = u / 2 ^ j := shrI_i64 u j hj

theorem st72 (n : Nat) (t0 : List Int) (t1 g : Bool) (o : List UInt8) (t9 : List Int) (t10 : Int) (us : List Int) (s i k : Nat) (u : Int) (hu : us[i]? = some u) (h0 : 0 ≤ u) (hk : k < s) (hs : s ≤ 4) (ho : o.length < 10000000) :
    L4_22_72 (n + 1) t0 t1 g o t9 t10 us (s : Int) (i : Int) (k : Int) = L4_22_72 n t0 t1 g (o ++ [by8 (u / 2 ^ pw g s k)]) t9 t10 us (s : Int) (i : Int) ((k + 1 : Nat) : Int) := by
  have hi : i < us.length := (List.getElem?_eq_some_iff.1 hu).1
  have w : IntKind.wrap .i64 ((k : Int) + 1) = ((k + 1 : Nat) : Int) := by rw [wrap_id] <;> omega
  have e0 : (Int.toNat (i : Int)) = i := rfl
  have w1 : IntKind.wrap .u64 (IntKind.wrap .i64 (8 * IntKind.wrap .i64 (IntKind.wrap .i64 ((s : Int) - 1) - k))) = ((8 * (s - 1 - k) : Nat) : Int) := by
    rw [wrap_id (x := (s : Int) - 1) (by omega) (by omega), wrap_id (x := (s : Int) - 1 - k) (by omega) (by omega), wrap_id (by omega) (by omega), wraps_u64] <;> omega
  have w2 : IntKind.wrap .u64 (IntKind.wrap .i64 (8 * (k : Int))) = ((8 * k : Nat) : Int) := by rw [wrap_id (by omega) (by omega), wraps_u64] <;> omega
  have t1' : Int.toNat ((8 * (s - 1 - k) : Nat) : Int) = 8 * (s - 1 - k) := rfl
  have t2' : Int.toNat ((8 * k : Nat) : Int) = 8 * k := rfl
  have nn : ∀ j : Nat, 0 ≤ u / 2 ^ j := fun j => Int.ediv_nonneg h0 (Int.le_of_lt (Int.pow_pos (by decide)))
  conv => lhs; unfold L4_22_72
  simp only [ilt_t (show (k : Int) < s by omega), len, ile_t (show (0 : Int) ≤ i by omega), ilt_t (show (i : Int) < us.length by omega), Bool.and_self, cond_true, e0, hu, Option.bind_some, w, w1, w2, t1', t2', ile_t (show (0 : Int) ≤ ((8 * (s - 1 - k) : Nat) : Int) by omega), ile_t (show (0 : Int) ≤ ((8 * k : Nat) : Int) by omega), List.length_cons, List.length_nil, roomle (show (o.length + (0 + 1)) * 2 ≤ 1099511627776 by omega), shrI_pw (8 * (s - 1 - k)) (show 8 * (s - 1 - k) ≤ 64 by omega), shrI_pw (8 * k) (show 8 * k ≤ 64 by omega), by_u8 (nn _)]
  cases g <;> rfl
theorem en72 (n : Nat) (t0 : List Int) (t1 g : Bool) (o : List UInt8) (t9 : List Int) (t10 : Int) (us : List Int) (s i : Int) : L4_22_72 (n + 1) t0 t1 g o t9 t10 us s i s = some ((t0, (t1, (g, (o, (t9, (t10, (us, (s, (i, ()))))))))), ()) := by
  simp only [L4_22_72, ilt_f (show s ≤ s by omega), cond_false]
theorem st73 (n : Nat) (t0 : List Int) (t1 g : Bool) (o : List UInt8) (t9 : List Int) (t10 : Int) (us : List Int) (s i k : Nat) (u : Int) (hu : us[i]? = some u) (h0 : 0 ≤ u) (hk : k < s) (hs : s ≤ 4) (ho : o.length < 10000000) :
    L4_22_73 (n + 1) t0 t1 g o t9 t10 us (s : Int) (i : Int) (k : Int) = L4_22_73 n t0 t1 g (o ++ [by8 (u / 2 ^ pw g s k)]) t9 t10 us (s : Int) (i : Int) ((k + 1 : Nat) : Int) := by
  have hi : i < us.length := (List.getElem?_eq_some_iff.1 hu).1
  have w : IntKind.wrap .i64 ((k : Int) + 1) = ((k + 1 : Nat) : Int) := by rw [wrap_id] <;> omega
  have e0 : (Int.toNat (i : Int)) = i := rfl
  have w1 : IntKind.wrap .u64 (IntKind.wrap .i64 (8 * IntKind.wrap .i64 (IntKind.wrap .i64 ((s : Int) - 1) - k))) = ((8 * (s - 1 - k) : Nat) : Int) := by
    rw [wrap_id (x := (s : Int) - 1) (by omega) (by omega), wrap_id (x := (s : Int) - 1 - k) (by omega) (by omega), wrap_id (by omega) (by omega), wraps_u64] <;> omega
  have w2 : IntKind.wrap .u64 (IntKind.wrap .i64 (8 * (k : Int))) = ((8 * k : Nat) : Int) := by rw [wrap_id (by omega) (by omega), wraps_u64] <;> omega
  have t1' : Int.toNat ((8 * (s - 1 - k) : Nat) : Int) = 8 * (s - 1 - k) := rfl
  have t2' : Int.toNat ((8 * k : Nat) : Int) = 8 * k := rfl
  have nn : ∀ j : Nat, 0 ≤ u / 2 ^ j := fun j => Int.ediv_nonneg h0 (Int.le_of_lt (Int.pow_pos (by decide)))
  conv => lhs; unfold L4_22_73
  simp only [ilt_t (show (k : Int) < s by omega), len, ile_t (show (0 : Int) ≤ i by omega), ilt_t (show (i : Int) < us.length by omega), Bool.and_self, cond_true, e0, hu, Option.bind_some, w, w1, w2, t1', t2', ile_t (show (0 : Int) ≤ ((8 * (s - 1 - k) : Nat) : Int) by omega), ile_t (show (0 : Int) ≤ ((8 * k : Nat) : Int) by omega), List.length_cons, List.length_nil, roomle (show (o.length + (0 + 1)) * 2 ≤ 1099511627776 by omega), shrI_pw (8 * (s - 1 - k)) (show 8 * (s - 1 - k) ≤ 64 by omega), shrI_pw (8 * k) (show 8 * k ≤ 64 by omega), by_u8 (nn _)]
  cases g <;> rfl
theorem en73 (n : Nat) (t0 : List Int) (t1 g : Bool) (o : List UInt8) (t9 : List Int) (t10 : Int) (us : List Int) (s i : Int) : L4_22_73 (n + 1) t0 t1 g o t9 t10 us s i s = some ((t0, (t1, (g, (o, (t9, (t10, (us, (s, (i, ()))))))))), ()) := by
  simp only [L4_22_73, ilt_f (show s ≤ s by omega), cond_false]

def wb2 (g : Bool) (u : Int) : List UInt8 := bif g then [by8 (u / 256), by8 u] else [by8 u, by8 (u / 256)]
def wb4 (g : Bool) (u : Int) : List UInt8 := bif g then [by8 (u / 16777216), by8 (u / 65536), by8 (u / 256), by8 u] else [by8 u, by8 (u / 256), by8 (u / 65536), by8 (u / 16777216)]
theorem pw0 (u : Int) : u / 2 ^ (8 * 0) = u := by simp
theorem pw1 (u : Int) : u / 2 ^ (8 * 1) = u / 256 := rfl
theorem pw2 (u : Int) : u / 2 ^ (8 * 2) = u / 65536 := rfl
theorem pw3 (u : Int) : u / 2 ^ (8 * 3) = u / 16777216 := rfl

theorem wr72_2 (n : Nat) (t0 : List Int) (t1 g : Bool) (o : List UInt8) (t9 : List Int) (t10 : Int) (us : List Int) (i : Nat) (u : Int) (hu : us[i]? = some u) (h0 : 0 ≤ u) (ho : o.length < 1000000) (hn : 4 ≤ n) :
    L4_22_72 n t0 t1 g o t9 t10 us 2 (i : Int) 0 = some ((t0, (t1, (g, (o ++ wb2 g u, (t9, (t10, (us, (2, ((i : Int), ()))))))))), ()) := by
  obtain ⟨n, rfl⟩ : ∃ k, n = k + 4 := ⟨n - 4, by omega⟩
  refine (st72 (n + 3) t0 t1 g o t9 t10 us 2 i 0 u hu h0 (by omega) (by omega) (by omega)).trans ?_
  refine (st72 (n + 2) t0 t1 g _ t9 t10 us 2 i 1 u hu h0 (by omega) (by omega) (by simp; omega)).trans ?_
  refine (en72 (n + 1) t0 t1 g _ t9 t10 us 2 i).trans ?_
  rw [List.append_assoc]
  cases g
  · simp only [pw, cond_false, pw0, pw1, wb2, List.cons_append, List.nil_append]
  · simp only [pw, cond_true, pw0, pw1, wb2, List.cons_append, List.nil_append, Nat.reduceSub]
theorem wr72_4 (n : Nat) (t0 : List Int) (t1 g : Bool) (o : List UInt8) (t9 : List Int) (t10 : Int) (us : List Int) (i : Nat) (u : Int) (hu : us[i]? = some u) (h0 : 0 ≤ u) (ho : o.length < 1000000) (hn : 6 ≤ n) :
    L4_22_72 n t0 t1 g o t9 t10 us 4 (i : Int) 0 = some ((t0, (t1, (g, (o ++ wb4 g u, (t9, (t10, (us, (4, ((i : Int), ()))))))))), ()) := by
  obtain ⟨n, rfl⟩ : ∃ k, n = k + 6 := ⟨n - 6, by omega⟩
  refine (st72 (n + 5) t0 t1 g o t9 t10 us 4 i 0 u hu h0 (by omega) (by omega) (by omega)).trans ?_
  refine (st72 (n + 4) t0 t1 g _ t9 t10 us 4 i 1 u hu h0 (by omega) (by omega) (by simp; omega)).trans ?_
  refine (st72 (n + 3) t0 t1 g _ t9 t10 us 4 i 2 u hu h0 (by omega) (by omega) (by simp; omega)).trans ?_
  refine (st72 (n + 2) t0 t1 g _ t9 t10 us 4 i 3 u hu h0 (by omega) (by omega) (by simp; omega)).trans ?_
  refine (en72 (n + 1) t0 t1 g _ t9 t10 us 4 i).trans ?_
  simp only [List.append_assoc]
  cases g
  · simp only [pw, cond_false, pw0, pw1, pw2, pw3, wb4, List.cons_append, List.nil_append]
  · simp only [pw, cond_true, pw0, pw1, pw2, pw3, wb4, List.cons_append, List.nil_append, Nat.reduceSub]
theorem wr73_2 (n : Nat) (t0 : List Int) (t1 g : Bool) (o : List UInt8) (t9 : List Int) (t10 : Int) (us : List Int) (i : Nat) (u : Int) (hu : us[i]? = some u) (h0 : 0 ≤ u) (ho : o.length < 1000000) (hn : 4 ≤ n) :
    L4_22_73 n t0 t1 g o t9 t10 us 2 (i : Int) 0 = some ((t0, (t1, (g, (o ++ wb2 g u, (t9, (t10, (us, (2, ((i : Int), ()))))))))), ()) := by
  obtain ⟨n, rfl⟩ : ∃ k, n = k + 4 := ⟨n - 4, by omega⟩
  refine (st73 (n + 3) t0 t1 g o t9 t10 us 2 i 0 u hu h0 (by omega) (by omega) (by omega)).trans ?_
  refine (st73 (n + 2) t0 t1 g _ t9 t10 us 2 i 1 u hu h0 (by omega) (by omega) (by simp; omega)).trans ?_
  refine (en73 (n + 1) t0 t1 g _ t9 t10 us 2 i).trans ?_
  rw [List.append_assoc]
  cases g
  · simp only [pw, cond_false, pw0, pw1, wb2, List.cons_append, List.nil_append]
  · simp only [pw, cond_true, pw0, pw1, wb2, List.cons_append, List.nil_append, Nat.reduceSub]

/-! ### One code point's units -/
theorem one2 (n : Nat) (t0 : List Int) (t1 g : Bool) (o : List UInt8) (t9 : List Int) (t10 u : Int) (h0 : 0 ≤ u) (ho : o.length < 1000000) (hn : 8 ≤ n) : L4_19 n t0 t1 g o t9 t10 [u] 2 0 = some ((t0, (t1, (g, (o ++ wb2 g u, (t9, (t10, ())))))), ()) := by
  obtain ⟨n, rfl⟩ : ∃ k, n = k + 2 := ⟨n - 2, by omega⟩
  have e : L4_22_72 (n + 1 + 2) t0 t1 g o t9 t10 [u] 2 0 0 = _ := wr72_2 (n + 1 + 2) t0 t1 g o t9 t10 [u] 0 u rfl h0 ho (by omega)
  simp only [L4_19, len, List.length_cons, List.length_nil, ilt_t (show (0 : Int) < ((0 + 1 : Nat) : Int) by decide), cond_true, e, Option.bind_some, show IntKind.wrap .i64 (((0 : Nat) : Int) + 1) = 1 by decide, ilt_f (show ((0 + 1 : Nat) : Int) ≤ 1 by decide), cond_false]
theorem one4 (n : Nat) (t0 : List Int) (t1 g : Bool) (o : List UInt8) (t9 : List Int) (t10 u : Int) (h0 : 0 ≤ u) (ho : o.length < 1000000) (hn : 8 ≤ n) : L4_19 n t0 t1 g o t9 t10 [u] 4 0 = some ((t0, (t1, (g, (o ++ wb4 g u, (t9, (t10, ())))))), ()) := by
  obtain ⟨n, rfl⟩ : ∃ k, n = k + 2 := ⟨n - 2, by omega⟩
  have e : L4_22_72 (n + 1 + 2) t0 t1 g o t9 t10 [u] 4 0 0 = _ := wr72_4 (n + 1 + 2) t0 t1 g o t9 t10 [u] 0 u rfl h0 ho (by omega)
  simp only [L4_19, len, List.length_cons, List.length_nil, ilt_t (show (0 : Int) < ((0 + 1 : Nat) : Int) by decide), cond_true, e, Option.bind_some, show IntKind.wrap .i64 (((0 : Nat) : Int) + 1) = 1 by decide, ilt_f (show ((0 + 1 : Nat) : Int) ≤ 1 by decide), cond_false]
theorem two2 (n : Nat) (t0 : List Int) (t1 g : Bool) (o : List UInt8) (t9 : List Int) (t10 u v : Int) (h0 : 0 ≤ u) (h1 : 0 ≤ v) (ho : o.length < 900000) (hn : 8 ≤ n) : L4_19_70 n t0 t1 g o t9 t10 [u, v] 2 0 = some ((t0, (t1, (g, (o ++ (wb2 g u ++ wb2 g v), (t9, (t10, ())))))), ()) := by
  obtain ⟨n, rfl⟩ : ∃ k, n = k + 3 := ⟨n - 3, by omega⟩
  have lb : (wb2 g u).length = 2 := by cases g <;> rfl
  have e : L4_22_73 (n + 2 + 2) t0 t1 g o t9 t10 [u, v] 2 0 0 = _ := wr73_2 (n + 2 + 2) t0 t1 g o t9 t10 [u, v] 0 u rfl h0 (by omega) (by omega)
  have e2 : L4_22_73 (n + 1 + 2) t0 t1 g (o ++ wb2 g u) t9 t10 [u, v] 2 1 0 = _ := wr73_2 (n + 1 + 2) t0 t1 g (o ++ wb2 g u) t9 t10 [u, v] 1 v rfl h1 (by simp [lb]; omega) (by omega)
  simp only [L4_19_70, len, List.length_cons, List.length_nil, ilt_t (show (0 : Int) < ((0 + 1 + 1 : Nat) : Int) by decide), cond_true, e, Option.bind_some, show IntKind.wrap .i64 (((0 : Nat) : Int) + 1) = 1 by decide, ilt_t (show (1 : Int) < ((0 + 1 + 1 : Nat) : Int) by decide), e2, show IntKind.wrap .i64 (((1 : Nat) : Int) + 1) = 2 by decide, ilt_f (show ((0 + 1 + 1 : Nat) : Int) ≤ 2 by decide), cond_false, List.append_assoc]
end Go.Proofs.YtjaiiojikollmaaDoor

/- Law 1: all of UtfWide. -/
namespace Go.Proofs.YtjaiiojikollmaaDoor
open Go Go.Iv Go.Gv

/-- The units of a code point, by twos. -/
def u16 (c : Int) : List Int := if 65535 < c then [55296 + (c - 65536) / 1024, 56320 + (c - 65536) % 1024] else [c]
def wE (four g : Bool) (c : Int) : List UInt8 := bif four then wb4 g c else if 65535 < c then wb2 g (55296 + (c - 65536) / 1024) ++ wb2 g (56320 + (c - 65536) % 1024) else wb2 g c
def wL (four g : Bool) : List Int → List UInt8
  | [] => []
  | c :: r => wE four g c ++ wL four g r
/-- May it be written so? -/
def gd : Nat → List Int → Bool
  | _, [] => true
  | i, c :: r => okc c && !(c == 0 && i == 1) && gd (i + 1) r

theorem wE_len (four g : Bool) (c : Int) : (wE four g c).length ≤ 4 := by
  unfold wE wb2 wb4
  cases four <;> cases g <;> (simp only [cond_true, cond_false]; (try split) <;> simp)

theorem and1023 {x : Int} (h1 : 0 ≤ x) (h2 : x < 2000000) : andI .i64 x 1023 = x % 1024 := andI_i64 10 (by decide) x h1 (by omega)
theorem i64shr10 (x : Int) : shrI .i64 x 10 = x / 1024 := shrI_i64 x 10 (by decide)

theorem wloop (l : List Int) (four g : Bool) (all : List Int) (ha : all.length < 1000) : ∀ (m : Nat) (r : List Int) (n i : Nat) (o : List UInt8), r.length ≤ m → all.drop i = r → i ≤ all.length → o.length + 4 * r.length < 100000 → m + 12 ≤ n →
    L4_7 n l four g o all (i : Int) = bif gd i r then some (.inl ((l, (o ++ wL four g r, ())), ())) else some (.inr ((true, ()), ())) := by
  intro m
  induction m with
  | zero =>
    intro r n i o hm hr hi ho hn
    obtain ⟨n, rfl⟩ : ∃ k, n = k + 1 := ⟨n - 1, by omega⟩
    have : r = [] := List.length_eq_zero_iff.1 (by omega)
    subst this
    have hlen : all.length ≤ i := by simpa using hr
    simp only [L4_7, len, ilt_f (show (all.length : Int) ≤ i by omega), cond_false, gd, cond_true, wL, List.append_nil]
  | succ m ih =>
    intro r n i o hm hr hi ho hn
    obtain ⟨n, rfl⟩ : ∃ k, n = k + 1 := ⟨n - 1, by omega⟩
    have hlen : all.length = i + r.length := by rw [← hr]; simp; omega
    cases r with
    | nil =>
      simp at hlen
      simp only [L4_7, len, ilt_f (show (all.length : Int) ≤ i by omega), cond_false, gd, cond_true, wL, List.append_nil]
    | cons c r =>
      simp only [List.length_cons] at hlen hm ho
      have e0 : (Int.toNat (i : Int)) = i := rfl
      have h0 := at_drop hr 0
      simp only [Nat.add_zero, List.getElem?_cons_zero] at h0
      have hd : all.drop (i + 1) = r := by rw [← List.drop_drop, hr]; rfl
      have w : IntKind.wrap .i64 ((i : Int) + 1) = ((i + 1 : Nat) : Int) := by rw [wrap_id] <;> omega
      simp only [L4_7, len, ilt_t (show (i : Int) < all.length by omega), ile_t (show (0 : Int) ≤ i by omega), Bool.and_self, cond_true, e0, h0, Option.bind_some, gd, wL]
      cases hk : okc c with
      | false =>
        have hc := of_decide_eq_false hk
        simp only [Bool.false_and, cond_false]
        by_cases h1 : c < 0
        · rw [ilt_t h1]; rfl
        rw [ilt_f (by omega)]
        by_cases h2 : 1114111 < c
        · rw [ilt_t h2]; rfl
        rw [ilt_f (by omega), ile_t (show 55296 ≤ c by omega), ile_t (show c ≤ 57343 by omega)]; rfl
      | true =>
        have hc := of_decide_eq_true hk
        rw [ilt_f (show 0 ≤ c by omega), ilt_f (show c ≤ 1114111 by omega)]
        simp only [cond_false, Bool.true_and]
        -- what is written
        have next : L4_7 n l four g (o ++ wE four g c) all ((i + 1 : Nat) : Int) = bif gd (i + 1) r then some (.inl ((l, (o ++ (wE four g c ++ wL four g r), ())), ())) else some (.inr ((true, ()), ())) := by
          have := wE_len four g c
          rw [ih r n (i + 1) _ (by omega) hd (by omega) (by simp; omega) (by omega), List.append_assoc]
        have key : (bif !four then bif ilt 65535 c then
              Option.bind (L4_19_70 (n + 1) l four g o all (i : Int) [IntKind.wrap .i64 (55296 + shrI .i64 (IntKind.wrap .i64 (c - 65536)) 10), IntKind.wrap .i64 (56320 + andI .i64 (IntKind.wrap .i64 (c - 65536)) 1023)] 2 0) fun y => L4_7 n y.1.1 y.1.2.1 y.1.2.2.1 y.1.2.2.2.1 y.1.2.2.2.2.1 (IntKind.wrap .i64 (y.1.2.2.2.2.2.1 + 1))
            else Option.bind (L4_19 (n + 1) l four g o all (i : Int) [c] 2 0) fun y => L4_7 n y.1.1 y.1.2.1 y.1.2.2.1 y.1.2.2.2.1 y.1.2.2.2.2.1 (IntKind.wrap .i64 (y.1.2.2.2.2.2.1 + 1))
            else Option.bind (L4_19 (n + 1) l four g o all (i : Int) [c] 4 0) fun y => L4_7 n y.1.1 y.1.2.1 y.1.2.2.1 y.1.2.2.2.1 y.1.2.2.2.2.1 (IntKind.wrap .i64 (y.1.2.2.2.2.2.1 + 1))) =
            bif gd (i + 1) r then some (.inl ((l, (o ++ (wE four g c ++ wL four g r), ())), ())) else some (.inr ((true, ()), ())) := by
          cases four with
          | true =>
            simp only [Bool.not_true, cond_false]
            rw [one4 (n + 1) l true g o all i c (by omega) (by omega) (by omega)]
            simp only [Option.bind_some, w]
            exact next
          | false =>
            simp only [Bool.not_false, cond_true]
            by_cases h1 : 65535 < c
            · rw [ilt_t h1, wrap_id (x := c - 65536) (by omega) (by omega), i64shr10, and1023 (by omega) (by omega), wrap_id (by omega) (by omega), wrap_id (by omega) (by omega)]
              simp only [cond_true]
              rw [two2 (n + 1) l false g o all i _ _ (by omega) (by omega) (by omega) (by omega)]
              simp only [Option.bind_some, w]
              have e : wE false g c = wb2 g (55296 + (c - 65536) / 1024) ++ wb2 g (56320 + (c - 65536) % 1024) := by
                unfold wE; rw [cond_false, if_pos h1]
              rw [← e]; exact next
            · rw [ilt_f (show c ≤ 65535 by omega)]
              simp only [cond_false]
              rw [one2 (n + 1) l false g o all i c (by omega) (by omega) (by omega)]
              simp only [Option.bind_some, w]
              have e : wE false g c = wb2 g c := by
                unfold wE; rw [cond_false, if_neg h1]
              rw [← e]; exact next
        have tst : (((i : Int) == 1) : Bool) = (i == 1) := by
          rw [Bool.eq_iff_iff]; simp only [beq_iff_eq]; omega
        have all2 : (bif (c == 0) then (bif ((i : Int) == 1) then some (.inr ((true, ()), ())) else (bif gd (i + 1) r then some (Sum.inl ((l, (o ++ (wE four g c ++ wL four g r), ())), ())) else some (.inr ((true, ()), ())))) else (bif gd (i + 1) r then some (.inl ((l, (o ++ (wE four g c ++ wL four g r), ())), ())) else some (.inr ((true, ()), ())))) =
            bif (!(c == 0 && i == 1) && gd (i + 1) r) then some (.inl ((l, (o ++ (wE four g c ++ wL four g r), ())), ())) else some (.inr ((true, ()), ())) := by
          rw [tst]
          cases c == 0 <;> cases i == 1 <;> rfl
        rw [← all2, ← key]
        by_cases h1 : 55296 ≤ c
        · rw [ile_t h1, ile_f (show 57343 < c by omega)]; rfl
        · rw [ile_f (by omega)]; rfl

/-! ### What is read -/
theorem num2_w (g : Bool) {u : Int} (h0 : 0 ≤ u) (h1 : u < 65536) (r : List UInt8) : ch2 g (wb2 g u ++ r) = u :: ch2 g r := by
  have a := ub_by (x := u / 256) (by omega) (by omega)
  have b : ub (by8 u) = u % 256 := by unfold ub by8; rw [UInt8.toNat_ofNat']; omega
  cases g <;> simp only [wb2, cond_true, cond_false, List.cons_append, List.nil_append, ch2, num2, a, b] <;> congr 1 <;> omega
theorem num4_w (g : Bool) {u : Int} (h0 : 0 ≤ u) (h1 : u ≤ 1114111) (r : List UInt8) : ch4 g (wb4 g u ++ r) = u :: ch4 g r := by
  have a := ub_by (x := u / 16777216) (by omega) (by omega)
  have a2 := ub_by (x := u / 65536) (by omega) (by omega)
  have b1 : ub (by8 (u / 256)) = u / 256 % 256 := by unfold ub by8; rw [UInt8.toNat_ofNat']; omega
  have b : ub (by8 u) = u % 256 := by unfold ub by8; rw [UInt8.toNat_ofNat']; omega
  cases g <;> simp only [wb4, cond_true, cond_false, List.cons_append, List.nil_append, ch4, num4, a, a2, b, b1] <;> congr 1 <;> omega

theorem wb2_len (g : Bool) (u : Int) : (wb2 g u).length = 2 := by cases g <;> rfl
theorem wb4_len (g : Bool) (u : Int) : (wb4 g u).length = 4 := by cases g <;> rfl

theorem rd4 (g : Bool) : ∀ (l : List Int) (i : Nat), gd i l = true → ch4 g (wL true g l) = l ∧ (wL true g l).length % 4 = 0 ∧ allc l = true := by
  intro l
  induction l with
  | nil => intro i _; exact ⟨rfl, rfl, rfl⟩
  | cons c r ih =>
    intro i h
    simp only [gd, Bool.and_eq_true] at h
    obtain ⟨⟨h1, _⟩, h3⟩ := h
    have hc := of_decide_eq_true h1
    obtain ⟨k1, k2, k3⟩ := ih (i + 1) h3
    refine ⟨?_, ?_, ?_⟩
    · show ch4 g (wb4 g c ++ wL true g r) = _
      rw [num4_w g (by omega) (by omega), k1]
    · show (wb4 g c ++ wL true g r).length % 4 = 0
      rw [List.length_append, wb4_len]; omega
    · simp only [allc, h1, k3, Bool.and_self]

theorem rd2 (g : Bool) : ∀ (l : List Int) (i : Nat), gd i l = true → prs (ch2 g (wL false g l)) = some l ∧ (wL false g l).length % 2 = 0 := by
  intro l
  induction l with
  | nil => intro i _; exact ⟨rfl, rfl⟩
  | cons c r ih =>
    intro i h
    simp only [gd, Bool.and_eq_true] at h
    obtain ⟨⟨h1, _⟩, h3⟩ := h
    have hc := of_decide_eq_true h1
    obtain ⟨k1, k2⟩ := ih (i + 1) h3
    by_cases h2 : 65535 < c
    · have e : wL false g (c :: r) = wb2 g (55296 + (c - 65536) / 1024) ++ (wb2 g (56320 + (c - 65536) % 1024) ++ wL false g r) := by
        show wE false g c ++ _ = _
        unfold wE; rw [cond_false, if_pos h2, List.append_assoc]
      have hh : hi (55296 + (c - 65536) / 1024) = true := decide_eq_true (by omega)
      have hl : lo (56320 + (c - 65536) % 1024) = true := decide_eq_true (by omega)
      have hm : cmb (55296 + (c - 65536) / 1024) (56320 + (c - 65536) % 1024) = c := by unfold cmb; omega
      refine ⟨?_, ?_⟩
      · rw [e, num2_w g (by omega) (by omega), num2_w g (by omega) (by omega), prs_cons, hh]
        simp only [cond_true, prs2, hl, k1, hm, Option.map_some]
      · rw [e, List.length_append, List.length_append, wb2_len, wb2_len]; omega
    · have e : wL false g (c :: r) = wb2 g c ++ wL false g r := by
        show wE false g c ++ _ = _
        unfold wE; rw [cond_false, if_neg h2]
      have hh : hi c = false := decide_eq_false (by omega)
      refine ⟨?_, ?_⟩
      · rw [e, num2_w g (by omega) (by omega), prs_cons, hh, h1]
        simp only [cond_true, cond_false, k1, Option.map_some]
      · rw [e, List.length_append, wb2_len]; omega

/-- The mark, and what it tells. -/
theorem frm_w (four g : Bool) (l : List Int) (h : gd 1 l = true) : frm (wE four g 65279 ++ wL four g l) = bif four then (bif g then (4, 4) else (5, 4)) else (bif g then (2, 2) else (3, 2)) := by
  cases four with
  | true => cases g <;> rfl
  | false =>
    cases g with
    | true =>
      have e : wE false true 65279 = [254, 255] := by decide
      rw [e]; rfl
    | false =>
      have e : wE false false 65279 = [255, 254] := by decide
      rw [e]
      have p : pre [255, 254, 0, 0] ([255, 254] ++ wL false false l) = false := by
        cases l with
        | nil => rfl
        | cons c r =>
          simp only [gd, Bool.and_eq_true] at h
          obtain ⟨⟨h1, h2⟩, _⟩ := h
          have hc := of_decide_eq_true h1
          have hz : c ≠ 0 := by
            intro hz; subst hz; cases h2
          -- the first unit is not nought
          obtain ⟨u, s, hs, hu0, hu1⟩ : ∃ (u : Int) (s : List UInt8), wL false false (c :: r) = by8 u :: by8 (u / 256) :: s ∧ 0 < u ∧ u < 65536 := by
            by_cases h3 : 65535 < c
            · refine ⟨55296 + (c - 65536) / 1024, wb2 false (56320 + (c - 65536) % 1024) ++ wL false false r, ?_, by omega, by omega⟩
              show wE false false c ++ _ = _
              unfold wE; rw [cond_false, if_pos h3]; rfl
            · refine ⟨c, wL false false r, ?_, by omega, by omega⟩
              show wE false false c ++ _ = _
              unfold wE; rw [cond_false, if_neg h3]; rfl
          rw [hs]
          show ((255 : UInt8) == 255 && ((254 : UInt8) == 254 && ((0 : UInt8) == by8 u && ((0 : UInt8) == by8 (u / 256) && true)))) = false
          have a := ub_by (x := u / 256) (by omega) (by omega)
          have b : ub (by8 u) = u % 256 := by unfold ub by8; rw [UInt8.toNat_ofNat']; omega
          cases h4 : ((0 : UInt8) == by8 u) with
          | false => rfl
          | true =>
            cases h5 : ((0 : UInt8) == by8 (u / 256)) with
            | false => rfl
            | true =>
              have h4 := eq_of_beq h4
              have h5 := eq_of_beq h5
              rw [← h4] at b
              rw [← h5] at a
              have z : ub 0 = 0 := rfl
              omega
      unfold frm
      rw [p]
      rfl

theorem wide_pts (four g : Bool) (l : List Int) (h : gd 0 (65279 :: l) = true) : pts (wL four g (65279 :: l)) = (l, 0) := by
  have h1 : gd 1 l = true := by
    simp only [gd, Bool.and_eq_true] at h
    exact h.2
  have hf := frm_w four g l h1
  show pts (wE four g 65279 ++ wL four g l) = _
  unfold pts
  rw [hf]
  cases four with
  | true =>
    have hd : List.drop 4 (wE true g 65279 ++ wL true g l) = wL true g l := by cases g <;> rfl
    obtain ⟨k1, k2, k3⟩ := rd4 g l 1 h1
    cases g with
    | true =>
      simp only [cond_true, show (Int.toNat 4) = 4 from rfl, hd]
      rw [if_neg (by decide), if_neg (by decide)]
      simp only [show ((4 : Int) == 4) = true from rfl, k1]
      rw [if_pos ⟨k2, k3⟩]
    | false =>
      simp only [cond_true, cond_false, show (Int.toNat 4) = 4 from rfl, hd]
      rw [if_neg (by decide), if_neg (by decide)]
      simp only [show ((5 : Int) == 4) = false from rfl, k1]
      rw [if_pos ⟨k2, k3⟩]
  | false =>
    have hd : List.drop 2 (wE false g 65279 ++ wL false g l) = wL false g l := by
      have e : (wE false g 65279).length = 2 := by cases g <;> decide
      rw [← e, List.drop_left]
    obtain ⟨k1, k2⟩ := rd2 g l 1 h1
    cases g with
    | true =>
      simp only [cond_true, cond_false, show (Int.toNat 2) = 2 from rfl, hd]
      rw [if_neg (by decide), if_pos (by decide), if_pos k2]
      simp only [show ((2 : Int) == 2) = true from rfl, k1]
    | false =>
      simp only [cond_false, show (Int.toNat 2) = 2 from rfl, hd]
      rw [if_neg (by decide), if_pos (by decide), if_pos k2]
      simp only [show ((3 : Int) == 2) = false from rfl, k1]

theorem wL_len (four g : Bool) (l : List Int) : (wL four g l).length ≤ 4 * l.length := by
  induction l with
  | nil => simp [wL]
  | cons c r ih =>
    have := wE_len four g c
    simp only [wL, List.length_append, List.length_cons]; omega

theorem utfWide_spec (l : List Int) (four g : Bool) : utfWide 6000 l four g = some (true, ()) := by
  unfold utfWide
  simp only [alive, Option.bind_some, Bool.not_true, cond_false, len]
  by_cases h : 300 < l.length
  · rw [ilt_t (by omega)]; rfl
  rw [ilt_f (by omega)]
  simp only [cond_false, List.length_cons, List.length_nil, roomle (show (0 + 1 + l.length) * 9 ≤ 1099511627776 by omega), cond_true, List.cons_append, List.nil_append]
  have := wloop l four g (65279 :: l) (by simp; omega) (65279 :: l).length (65279 :: l) (6000 + 11) 0 [] (by omega) rfl (by omega) (by simp; omega) (by simp; omega)
  refine (congrArg (fun z => Option.bind z _) this).trans ?_
  cases hg : gd 0 (65279 :: l) with
  | false => rfl
  | true =>
    have hl := wL_len four g (65279 :: l)
    simp only [List.length_cons] at hl
    simp only [cond_true, Option.bind_some, List.nil_append]
    rw [points_spec (6000 + 6) _ (by omega) (by omega), wide_pts four g l hg]
    simp only [Option.bind_some, beq_self_eq_true, cond_true]
    rw [sameInts_spec (6000 + 10) l (by omega) (by omega)]
    rfl
end Go.Proofs.YtjaiiojikollmaaDoor
