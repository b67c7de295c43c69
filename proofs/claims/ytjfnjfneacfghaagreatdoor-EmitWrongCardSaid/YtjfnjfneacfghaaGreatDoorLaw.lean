/- The document's decoding of bytes. -/
import Derived.Test.YtjfnjfneacfghaaGreatDoorFa
import Derived.Test.YtjfnjfneacfghaaGreatDoorGvPlain
import Derived.Lib.ValidLaws
import Derived.Test.YtjfnjfneacfghaaGreatDoorGvImp
import Derived.Test.YtjfnjfneacfghaaGreatDoorProg
import Derived.Test.YtjfnjfneacfghaaGreatDoorGs
import Derived.Test.YtjfnjfneacfghaaGreatDoorAl
import Derived.Test.YtjfnjfneacfghaaGreatDoorGvSpec
set_option linter.unusedSimpArgs false
set_option linter.unusedVariables false
namespace Go.Proofs.YtjfnjfneacfghaaGreatDoor
open Go Go.Iv Go.Gv
set_option maxRecDepth 10000
theorem tkd {α : Type} (l : List α) (k : Nat) : List.take (l.length - k) (List.drop k l) = List.drop k l := List.take_of_length_le (by simp)
theorem at_drop {α : Type} {l r : List α} {i : Nat} (h : l.drop i = r) (k : Nat) : l[i + k]? = r[k]? := by rw [← h, List.getElem?_drop]
theorem roomle {n : Nat} (h : n ≤ 1099511627776) : room n = true := room_ok h

def okc (c : Int) : Bool := decide (0 ≤ c ∧ c ≤ 1114111 ∧ (c < 55296 ∨ 57343 < c))
theorem right_spec (n : Nat) (c : Int) : rightP n c = some (okc c, ()) := by
  unfold rightP okc
  rw [ile_eq, ile_eq, ilt_eq, ilt_eq]
  by_cases h1 : (0 : Int) ≤ c <;> by_cases h2 : c ≤ 1114111 <;> by_cases h3 : c < 55296 <;> simp only [h1, h2, h3, decide_true, decide_false, cond_true, cond_false, true_and, false_and, true_or, false_or, Bool.decide_and, Option.bind_some]
def cont (x : UInt8) : Prop := 128 ≤ ub x ∧ ub x ≤ 191
instance (x : UInt8) : Decidable (cont x) := inferInstanceAs (Decidable (_ ∧ _))
def v2 (a b : UInt8) : Int := (ub a % 32) * 64 + ub b % 64
def v3 (a b c : UInt8) : Int := ((ub a % 16) * 64 + ub b % 64) * 64 + ub c % 64
def v4 (a b c d : UInt8) : Int := (((ub a % 8) * 64 + ub b % 64) * 64 + ub c % 64) * 64 + ub d % 64

/-- The code point that begins here, and how many bytes it has. -/
def pt : List UInt8 → Option (Int × Nat)
  | [] => none
  | a :: r =>
    if ub a < 128 then some (ub a, 1)
    else if ub a < 194 then none
    else if ub a < 224 then match r with
      | b :: _ => if cont b then some (v2 a b, 2) else none
      | _ => none
    else if ub a < 240 then match r with
      | b :: c :: _ => if cont b ∧ cont c ∧ 2048 ≤ v3 a b c ∧ okc (v3 a b c) = true then some (v3 a b c, 3) else none
      | _ => none
    else if ub a < 245 then match r with
      | b :: c :: d :: _ => if cont b ∧ cont c ∧ cont d ∧ 65536 ≤ v4 a b c d ∧ okc (v4 a b c d) = true then some (v4 a b c d, 4) else none
      | _ => none
    else none

theorem pt_ok {l : List UInt8} {c : Int} {k : Nat} (h : pt l = some (c, k)) : okc c = true ∧ 1 ≤ k ∧ k ≤ l.length ∧ 0 ≤ c ∧ c ≤ 1114111 := by
  have fin : ∀ {c : Int} {k : Nat}, okc c = true → 1 ≤ k → k ≤ l.length → okc c = true ∧ 1 ≤ k ∧ k ≤ l.length ∧ 0 ≤ c ∧ c ≤ 1114111 := fun h1 h2 h3 => by
    have := of_decide_eq_true h1; exact ⟨h1, h2, h3, by omega, by omega⟩
  unfold pt at h
  match l, h with
  | a :: r, h =>
    have ha := ub_lt a
    dsimp only at h
    split at h
    · cases h; exact fin (decide_eq_true (by omega)) (by omega) (by simp)
    split at h
    · cases h
    split at h
    · split at h
      · split at h
        · cases h
          refine fin (decide_eq_true ?_) (by omega) (by simp)
          unfold v2; omega
        · cases h
      · cases h
    split at h
    · split at h
      · split at h
        · rename_i hh; cases h; exact fin hh.2.2.2 (by omega) (by simp)
        · cases h
      · cases h
    split at h
    · split at h
      · split at h
        · rename_i hh; cases h; exact fin hh.2.2.2.2 (by omega) (by simp)
        · cases h
      · cases h
    · cases h

theorem and63 {x : Int} (h1 : 0 ≤ x) (h2 : x < 1000) : andI .i64 x 63 = x % 64 := andI_i64 6 (by decide) x h1 (by omega)
theorem and31 {x : Int} (h1 : 0 ≤ x) (h2 : x < 1000) : andI .i64 x 31 = x % 32 := andI_i64 5 (by decide) x h1 (by omega)
theorem and15 {x : Int} (h1 : 0 ≤ x) (h2 : x < 1000) : andI .i64 x 15 = x % 16 := andI_i64 4 (by decide) x h1 (by omega)
theorem and7 {x : Int} (h1 : 0 ≤ x) (h2 : x < 1000) : andI .i64 x 7 = x % 8 := andI_i64 3 (by decide) x h1 (by omega)

/-! ### The document's -/
theorem cstep (n : Nat) (b : List UInt8) (N L c : Int) (k : Nat) (y : UInt8) (hk : b[k]? = some y) (hN : (k : Int) < N) (hN2 : N < 100) (h1 : 0 ≤ c) (h2 : c < 1099511627776) :
    L51_23 (n + 1) b N L c (k : Int) = if cont y then L51_23 n b N L (c * 64 + ub y % 64) ((k + 1 : Nat) : Int) else some (.inr ((0, (0, ())), ())) := by
  have hy := ub_lt y
  have w : IntKind.wrap .i64 ((k : Int) + 1) = ((k + 1 : Nat) : Int) := by rw [wrap_id] <;> omega
  have e0 : (Int.toNat (k : Int)) = k := rfl
  conv => lhs; unfold L51_23
  simp only [ilt_t hN, ile_t (show (0 : Int) ≤ k by omega), cond_true, e0, hk, Option.bind_some, ub_wrap, w]
  by_cases h3 : ub y < 128
  · rw [ilt_t h3, if_neg (fun h => by have := h.1; omega)]; rfl
  · rw [ilt_f (show 128 ≤ ub y by omega), cond_false]
    by_cases h4 : 191 < ub y
    · rw [ilt_t h4, if_neg (fun h => by have := h.2; omega)]; rfl
    · rw [ilt_f (show ub y ≤ 191 by omega), if_pos ⟨by omega, by omega⟩]
      simp only [Option.bind_some, cond_false]
      rw [and63 (by omega) (by omega), wrap_id (x := c * 64) (by omega) (by omega), wrap_id (by omega) (by omega)]
theorem cend (n : Nat) (b : List UInt8) (N L c : Int) : L51_23 (n + 1) b N L c N = some (.inl ((N, (L, (c, ()))), ())) := by
  simp only [L51_23, ilt_f (show N ≤ N by omega), cond_false]

/-- What it says. -/
def rp : Option (Int × Nat) → Int × (Int × Unit)
  | some (c, k) => (c, ((k : Int), ()))
  | none => (0, (0, ()))

theorem tail_spec (n : Nat) (L c N : Int) :
    (bif Go.Iv.ilt c L then some (0, (0, ())) else Option.bind (rightP n c) fun y => bif !y.1 then some (0, (0, ())) else some (c, (N, ()))) = if L ≤ c ∧ okc c = true then some (c, (N, ())) else some ((0 : Int), ((0 : Int), ())) := by
  rw [right_spec]
  by_cases h : c < L
  · rw [ilt_t h, if_neg (fun hh => by omega)]; rfl
  · rw [ilt_f (by omega)]
    cases okc c with
    | false => rw [if_neg (fun hh => by cases hh.2)]; rfl
    | true => rw [if_pos ⟨by omega, rfl⟩]; rfl

theorem pointR_spec (n : Nat) (a : UInt8) (r : List UInt8) (hn : 10 ≤ n) (hr : r.length < 10000000) : pointR n (a :: r) = some (rp (pt (a :: r))) := by
  obtain ⟨n, rfl⟩ : ∃ m, n = m + 10 := ⟨n - 10, by omega⟩
  have ha := ub_lt a
  have hp := pt.eq_def (a :: r)
  dsimp only at hp
  rw [hp]
  unfold pointR
  simp only [List.getElem?_cons_zero, Option.bind_some, ub_wrap, len]
  by_cases h1 : ub a < 128
  · rw [ilt_t h1, if_pos h1]; rfl
  rw [ilt_f (show 128 ≤ ub a by omega), if_neg h1]
  simp only [cond_true, cond_false, Option.bind_some]
  by_cases h2 : ub a < 194
  · rw [ile_f h2, if_pos h2, ile_f (show ub a < 224 by omega), ile_f (show ub a < 240 by omega)]; rfl
  rw [ile_t (show 194 ≤ ub a by omega), if_neg h2]
  simp only [cond_true, cond_false, Option.bind_some]
  by_cases h3 : ub a < 224
  · rw [ilt_t h3, if_pos h3]
    simp only [cond_true, cond_false, Option.bind_some]
    match r, hr with
    | [], _ => rfl
    | b :: s, hr =>
      have hb := ub_lt b
      simp only [List.length_cons] at hr ⊢
      rw [ilt_f (show (2 : Int) ≤ ((s.length + 1 + 1 : Nat) : Int) by omega), and31 (by omega) (by omega)]
      have s1 := cstep (n + 10) (a :: b :: s) 2 128 (ub a % 32) 1 b rfl (by decide) (by decide) (by omega) (by omega)
      have s2 := cend (n + 9) (a :: b :: s) 2 128 (ub a % 32 * 64 + ub b % 64)
      simp only [cond_true, cond_false, Option.bind_some]
      refine (congrArg (fun z => Option.bind z _) s1).trans ?_
      by_cases hc : cont b
      · rw [if_pos hc, if_pos hc]
        refine (congrArg (fun z => Option.bind z _) s2).trans ?_
        simp only [Option.bind_some]
        rw [tail_spec, if_pos ⟨by omega, decide_eq_true (by omega)⟩]
        rfl
      · rw [if_neg hc, if_neg hc]; rfl
  rw [ilt_f (show 224 ≤ ub a by omega), if_neg h3]
  simp only [cond_true, cond_false, Option.bind_some]
  rw [ile_t (show 224 ≤ ub a by omega)]
  simp only [cond_true, cond_false, Option.bind_some]
  by_cases h4 : ub a < 240
  · rw [ilt_t h4, if_pos h4]
    simp only [cond_true, cond_false, Option.bind_some]
    match r, hr with
    | [], _ => rfl
    | [b], _ => rfl
    | b :: c :: s, hr =>
      have hb := ub_lt b
      have hc := ub_lt c
      simp only [List.length_cons] at hr ⊢
      rw [ilt_f (show (3 : Int) ≤ ((s.length + 1 + 1 + 1 : Nat) : Int) by omega), and15 (by omega) (by omega)]
      have s1 := cstep (n + 10) (a :: b :: c :: s) 3 2048 (ub a % 16) 1 b rfl (by decide) (by decide) (by omega) (by omega)
      have s2 := cstep (n + 9) (a :: b :: c :: s) 3 2048 (ub a % 16 * 64 + ub b % 64) 2 c rfl (by decide) (by decide) (by omega) (by omega)
      have s3 := cend (n + 8) (a :: b :: c :: s) 3 2048 (v3 a b c)
      simp only [cond_true, cond_false, Option.bind_some]
      refine (congrArg (fun z => Option.bind z _) s1).trans ?_
      by_cases hb2 : cont b
      · rw [if_pos hb2]
        refine (congrArg (fun z => Option.bind z _) s2).trans ?_
        by_cases hc2 : cont c
        · rw [if_pos hc2]
          refine (congrArg (fun z => Option.bind z _) s3).trans ?_
          simp only [Option.bind_some]
          rw [tail_spec]
          by_cases hv : 2048 ≤ v3 a b c ∧ okc (v3 a b c) = true
          · rw [if_pos hv, if_pos ⟨hb2, hc2, hv⟩]; rfl
          · rw [if_neg hv, if_neg (fun h => hv h.2.2)]; rfl
        · rw [if_neg hc2, if_neg (fun h => hc2 h.2.1)]; rfl
      · rw [if_neg hb2, if_neg (fun h => hb2 h.1)]; rfl
  rw [ilt_f (show 240 ≤ ub a by omega), if_neg h4]
  simp only [cond_true, cond_false, Option.bind_some]
  rw [ile_t (show 240 ≤ ub a by omega)]
  simp only [cond_true, cond_false, Option.bind_some]
  by_cases h5 : ub a < 245
  · rw [ilt_t h5, if_pos h5]
    simp only [cond_true, cond_false, Option.bind_some]
    match r, hr with
    | [], _ => rfl
    | [b], _ => rfl
    | [b, c], _ => rfl
    | b :: c :: d :: s, hr =>
      have hb := ub_lt b
      have hc := ub_lt c
      have hd := ub_lt d
      simp only [List.length_cons] at hr ⊢
      rw [ilt_f (show (4 : Int) ≤ ((s.length + 1 + 1 + 1 + 1 : Nat) : Int) by omega), and7 (by omega) (by omega)]
      have s1 := cstep (n + 10) (a :: b :: c :: d :: s) 4 65536 (ub a % 8) 1 b rfl (by decide) (by decide) (by omega) (by omega)
      have s2 := cstep (n + 9) (a :: b :: c :: d :: s) 4 65536 (ub a % 8 * 64 + ub b % 64) 2 c rfl (by decide) (by decide) (by omega) (by omega)
      have s3 := cstep (n + 8) (a :: b :: c :: d :: s) 4 65536 ((ub a % 8 * 64 + ub b % 64) * 64 + ub c % 64) 3 d rfl (by decide) (by decide) (by omega) (by omega)
      have s4 := cend (n + 7) (a :: b :: c :: d :: s) 4 65536 (v4 a b c d)
      simp only [cond_true, cond_false, Option.bind_some]
      refine (congrArg (fun z => Option.bind z _) s1).trans ?_
      by_cases hb2 : cont b
      · rw [if_pos hb2]
        refine (congrArg (fun z => Option.bind z _) s2).trans ?_
        by_cases hc2 : cont c
        · rw [if_pos hc2]
          refine (congrArg (fun z => Option.bind z _) s3).trans ?_
          by_cases hd2 : cont d
          · rw [if_pos hd2]
            refine (congrArg (fun z => Option.bind z _) s4).trans ?_
            simp only [Option.bind_some]
            rw [tail_spec]
            by_cases hv : 65536 ≤ v4 a b c d ∧ okc (v4 a b c d) = true
            · rw [if_pos hv, if_pos ⟨hb2, hc2, hd2, hv⟩]; rfl
            · rw [if_neg hv, if_neg (fun h => hv h.2.2.2)]; rfl
          · rw [if_neg hd2, if_neg (fun h => hd2 h.2.2.1)]; rfl
        · rw [if_neg hc2, if_neg (fun h => hc2 h.2.1)]; rfl
      · rw [if_neg hb2, if_neg (fun h => hb2 h.1)]; rfl
  rw [ilt_f (show 245 ≤ ub a by omega), if_neg h5]
  rfl
attribute [local irreducible] pointR pt smallR rightP
def d8 : Nat → List UInt8 → Option (List Int)
  | _, [] => some []
  | 0, _ :: _ => none
  | n + 1, a :: r => match pt (a :: r) with
    | none => none
    | some (c, k) => (d8 n ((a :: r).drop k)).map (c :: ·)

theorem sR (b : List UInt8) (hb : b.length < 4194304) : ∀ (m : Nat) (r : List UInt8) (n i : Nat) (o : List Int), r.length ≤ m → b.drop i = r → i ≤ b.length → o.length + r.length < 10000000 → m + 12 ≤ n →
    L25_3 n b o (i : Int) = match d8 m r with
      | some xs => some (.inl ((o ++ xs, ()), ()))
      | none => some (.inr (((), (false, ())), ())) := by
  intro m
  induction m with
  | zero =>
    intro r n i o hm hr hi ho hn
    obtain ⟨n, rfl⟩ : ∃ k, n = k + 1 := ⟨n - 1, by omega⟩
    have : r = [] := List.length_eq_zero_iff.1 (by omega)
    subst this
    have hlen : b.length ≤ i := by simpa using hr
    simp only [L25_3, len, ilt_f (show (b.length : Int) ≤ i by omega), cond_false, d8, List.append_nil]
  | succ m ih =>
    intro r n i o hm hr hi ho hn
    obtain ⟨n, rfl⟩ : ∃ k, n = k + 1 := ⟨n - 1, by omega⟩
    have hlen : b.length = i + r.length := by rw [← hr]; simp; omega
    cases r with
    | nil =>
      simp at hlen
      simp only [L25_3, len, ilt_f (show (b.length : Int) ≤ i by omega), cond_false, d8, List.append_nil]
    | cons a r =>
      simp only [List.length_cons] at hlen hm ho
      have e0 : (Int.toNat (i : Int)) = i := rfl
      have hd0 : List.take (b.length - i) (List.drop i b) = a :: r := (tkd b i).trans hr
      simp only [L25_3, len, ilt_t (show (i : Int) < b.length by omega), ile_t (show (0 : Int) ≤ i by omega), ile_t (show (i : Int) ≤ b.length by omega), Bool.and_self, cond_true, e0, hd0, pointR_spec (n + 1) a r (by omega) (by omega), Option.bind_some, d8]
      cases hp : pt (a :: r) with
      | none => rfl
      | some q =>
        obtain ⟨c, k⟩ := q
        obtain ⟨k1, k2, k3, k4, k5⟩ := pt_ok hp
        simp only [List.length_cons] at k3
        have w : IntKind.wrap .i64 ((i : Int) + k) = ((i + k : Nat) : Int) := by rw [wrap_id] <;> omega
        have z : ((k : Int) == 0) = false := by rw [beq_eq_false_iff_ne]; omega
        have hd : b.drop (i + k) = (a :: r).drop k := by rw [← List.drop_drop, hr]
        simp only [rp, z, cond_false, List.length_cons, List.length_nil, roomle (show (o.length + (0 + 1)) * 9 ≤ 1099511627776 by omega), cond_true, w]
        rw [ih ((a :: r).drop k) n (i + k) (o ++ [c]) (by simp; omega) hd (by omega) (by simp; omega) (by omega)]
        cases d8 m ((a :: r).drop k) with
        | none => rfl
        | some xs => simp only [Option.map_some, List.append_assoc, List.cons_append, List.nil_append]

theorem smallR_spec (n : Nat) (b : List UInt8) (hb : b.length < 4194304) (hn : b.length + 12 ≤ n) : smallR n b = some (match d8 b.length b with
    | some xs => (xs, (true, ()))
    | none => ([], (false, ()))) := by
  unfold smallR
  rw [show (0 : Int) = ((0 : Nat) : Int) from rfl, sR b hb b.length b n 0 [] (by omega) rfl (by omega) (by simp; omega) hn]
  cases d8 b.length b <;> rfl


end Go.Proofs.YtjfnjfneacfghaaGreatDoor

/- Plain functions for the program's. -/
namespace Go.Proofs.YtjfnjfneacfghaaGreatDoor
open Go Go.Iv Go.Gv
set_option maxRecDepth 100000
set_option linter.unusedVariables false
noncomputable def hex (_n : Nat) (c : Int) : Option (Int × Unit) :=
  Option.bind (bif (Go.Iv.ile (48 : Int) c) then
      some (Go.Iv.ile c (57 : Int))
    else
    some Bool.false) fun b1 =>
  bif b1 then
    some ((Go.IntKind.wrap Go.IntKind.i64 (c - (48 : Int))), ())
  else
  Option.bind (bif (Go.Iv.ile (97 : Int) c) then
      some (Go.Iv.ile c (102 : Int))
    else
    some Bool.false) fun b3 =>
  bif b3 then
    some ((Go.IntKind.wrap Go.IntKind.i64 ((Go.IntKind.wrap Go.IntKind.i64 (c - (97 : Int))) + (10 : Int))), ())
  else
  Option.bind (bif (Go.Iv.ile (65 : Int) c) then
      some (Go.Iv.ile c (70 : Int))
    else
    some Bool.false) fun b5 =>
  bif b5 then
    some ((Go.IntKind.wrap Go.IntKind.i64 ((Go.IntKind.wrap Go.IntKind.i64 (c - (65 : Int))) + (10 : Int))), ())
  else
  some ((-(1 : Int)), ())
noncomputable def hex_it : FnIt := ⟨228, [(false, (.int .i64))], [(false, (.int .i64))], 1, fun n x => hex n x.1⟩
theorem hex_ok (n : Nat) : FnOK Go.Proofs.Tryz.prog hint shT hex_it n :=
  FnOK.of (hk := fun β => (Known.mk [] []).hk β) (sh := shT) (fun m _ => KnownOK.hook KnownOK.nil m) (fun x => by kernel_rfl)

noncomputable def word (_n : Nat) (c : Int) : Option (Bool × Unit) :=
  Option.bind (bif (Go.Iv.ile (48 : Int) c) then
      some (Go.Iv.ile c (57 : Int))
    else
    some Bool.false) fun b1 =>
  bif b1 then
    some (Bool.true, ())
  else
  Option.bind (bif (Go.Iv.ile (97 : Int) c) then
      some (Go.Iv.ile c (122 : Int))
    else
    some Bool.false) fun b3 =>
  bif b3 then
    some (Bool.true, ())
  else
  Option.bind (bif (Go.Iv.ile (65 : Int) c) then
      some (Go.Iv.ile c (90 : Int))
    else
    some Bool.false) fun b5 =>
  bif b5 then
    some (Bool.true, ())
  else
  some ((c == (45 : Int)), ())
noncomputable def word_it : FnIt := ⟨205, [(false, (.int .i64))], [(false, .bool)], 1, fun n x => word n x.1⟩
theorem word_ok (n : Nat) : FnOK Go.Proofs.Tryz.prog hint shT word_it n :=
  FnOK.of (hk := fun β => (Known.mk [] []).hk β) (sh := shT) (fun m _ => KnownOK.hook KnownOK.nil m) (fun x => by kernel_rfl)

noncomputable def L188_10_Xexit0 : Tm := ⟨[], [], 64, 64, 1000⟩
noncomputable def L188_10_Xret : Tm := ⟨[(2, .one (.int .i64))], [], 64, 64, 1000⟩
noncomputable def L188_10_T : Tm := ⟨[(0, .one (.lst (.int .i64))), (34, .one (.lst .byte)), (35, .one (.int .i64)), (36, .one (.int .i64))], [], 64, 64, 1000⟩
noncomputable def L188_10 : Nat → (List Int) → (List UInt8) → Int → Int → Option ((Unit × Unit) ⊕ ((Int × Unit) × Unit))
  | 0, _, _, _, _ => none
  | n + 1, t0, t34, t35, t36 =>
    bif (Go.Iv.ilt t36 t35) then
      bif (Go.Iv.ile (0 : Int) t36) then
      Option.bind (t34[(Int.toNat t36)]?) fun x11 =>
      Option.bind (t0[0]?) fun x12 =>
      bif (x12 == (Go.IntKind.wrap Go.IntKind.i64 (ub x11))) then
        some (.inr (((1 : Int), ()), ()))
      else
      L188_10 n t0 t34 t35 (Go.IntKind.wrap Go.IntKind.i64 (t36 + (1 : Int)))
      else none
    else
    some (.inl ((), ()))
noncomputable def L188_10_it : LoopIt := ⟨188, 10, none, L188_10_T, [(.exit 0, L188_10_Xexit0), (.ret, L188_10_Xret)], 0, fun n x => L188_10 n x.1.1 x.1.2.1 x.1.2.2.1 x.1.2.2.2.1⟩
theorem L188_10_Xexit0_ok : L188_10_Xexit0.ok Go.Proofs.Tryz.prog hint := by
  intro p hp
  cases hp
theorem L188_10_Xret_ok : L188_10_Xret.ok Go.Proofs.Tryz.prog hint := by
  intro p hp
  cases hp
theorem L188_10_T_ok : L188_10_T.ok Go.Proofs.Tryz.prog hint := by
  intro p hp
  cases hp
theorem L188_10_ok : ∀ n, LoopOK Go.Proofs.Tryz.prog hint shT L188_10_it n :=
  LoopOK.of (hk := fun β => (Known.mk [] []).hk β) (sh := shT) (OneLoop.of (by kernel_rfl)) L188_10_T_ok ⟨⟨L188_10_Xexit0_ok, Nat.le_refl _, Nat.le_refl _⟩, ⟨L188_10_Xret_ok, Nat.le_refl _, Nat.le_refl _⟩, trivial⟩ (fun m => KnownOK.hook KnownOK.nil m)
    (fun _ => by kernel_rfl) (fun m x => by kernel_rfl)

noncomputable def sign (n : Nat) (l : List Int) : Option (Int × Unit) :=
  bif ((len l) == (0 : Int)) then
    some ((0 : Int), ())
  else
  Option.bind (l[0]?) fun x0 =>
  bif (x0 == (37 : Int)) then
    bif (Go.Iv.ilt (2 : Int) (len l)) then
      Option.bind (l[1]?) fun x1 =>
      Option.bind (hex n x1) fun y2 =>
      bif (Go.Iv.ile (0 : Int) y2.1) then
        Option.bind (l[2]?) fun x3 =>
        Option.bind (hex n x3) fun y4 =>
        bif (Go.Iv.ile (0 : Int) y4.1) then
          some ((3 : Int), ())
        else
        some ((0 : Int), ())
      else
      some ((0 : Int), ())
    else
    some ((0 : Int), ())
  else
  Option.bind (l[0]?) fun x5 =>
  Option.bind (word n x5) fun y6 =>
  bif y6.1 then
    some ((1 : Int), ())
  else
  Option.bind (L188_10 (n + 2) l ([(35 : UInt8), (59 : UInt8), (47 : UInt8), (63 : UInt8), (58 : UInt8), (64 : UInt8), (38 : UInt8), (61 : UInt8), (43 : UInt8), (36 : UInt8), (44 : UInt8), (95 : UInt8), (46 : UInt8), (33 : UInt8), (126 : UInt8), (42 : UInt8), (39 : UInt8), (40 : UInt8), (41 : UInt8), (91 : UInt8), (93 : UInt8)] : List UInt8) (21 : Int) (0 : Int)) fun y13 =>
  match y13 with
    | .inl _ =>
      some ((0 : Int), ())
    | .inr y15 =>
      some (y15.1.1, ())
noncomputable def sign_it : FnIt := ⟨188, [(false, (.slc (.int .i64)))], [(false, (.int .i64))], 2, fun n x => sign n x.1⟩
theorem sign_ok (n : Nat) : FnOK Go.Proofs.Tryz.prog hint shT sign_it n :=
  FnOK.of (hk := fun β => (Known.mk [word_it, hex_it] [L188_10_it]).hk β) (sh := shT) (fun m _ => KnownOK.hook (((KnownOK.nil.fn hex_ok).fn word_ok).loop L188_10_ok L188_10_T_ok) m) (fun x => by kernel_rfl)

noncomputable def L65_3_Xexit0 : Tm := ⟨[(3, .one (.all 64 3 (.int .i64) true))], [], 64, 65, 1000⟩
noncomputable def L65_3_T : Tm := ⟨[(3, .one (.all 64 3 (.int .i64) true)), (7, .one (.lst .byte)), (8, .one (.int .i64)), (9, .one (.int .i64))], [], 64, 65, 1000⟩
noncomputable def L65_3 : Nat → (List Int) → (List UInt8) → Int → Int → Option (((List Int) × Unit) × Unit)
  | 0, _, _, _, _ => none
  | n + 1, t3, t7, t8, t9 =>
    bif (Go.Iv.ilt t9 t8) then
      bif (Go.Iv.ile (0 : Int) t9) then
      Option.bind (t7[(Int.toNat t9)]?) fun x3 =>
      bif (room (((List.length t3) + (List.length ((Go.IntKind.wrap Go.IntKind.i64 (ub x3)) :: ([] : List Int)))) * 9)) then
      L65_3 n (t3 ++ ((Go.IntKind.wrap Go.IntKind.i64 (ub x3)) :: ([] : List Int))) t7 t8 (Go.IntKind.wrap Go.IntKind.i64 (t9 + (1 : Int)))
      else none
      else none
    else
    some ((t3, ()), ())
noncomputable def L65_3_it : LoopIt := ⟨65, 3, none, L65_3_T, [(.exit 0, L65_3_Xexit0)], 0, fun n x => L65_3 n x.1.1 x.1.2.1 x.1.2.2.1 x.1.2.2.2.1⟩
theorem L65_3_Xexit0_ok : L65_3_Xexit0.ok Go.Proofs.Tryz.prog hint := by
  intro p hp
  cases hp
theorem L65_3_T_ok : L65_3_T.ok Go.Proofs.Tryz.prog hint := by
  intro p hp
  cases hp
theorem L65_3_ok : ∀ n, LoopOK Go.Proofs.Tryz.prog hint shT L65_3_it n :=
  LoopOK.of (hk := fun β => (Known.mk [] []).hk β) (sh := shT) (OneLoop.of (by kernel_rfl)) L65_3_T_ok ⟨⟨L65_3_Xexit0_ok, Nat.le_refl _, Nat.le_refl _⟩, trivial⟩ (fun m => KnownOK.hook KnownOK.nil m)
    (fun _ => by kernel_rfl) (fun m x => by kernel_rfl)

noncomputable def L187_1_Xret : Tm := ⟨[], [(64, .arr 3 (.int .i64) true true true), (65, .cells 23 [.lst (.int .i64)] true), (66, .cells 78 [.fix (Go.Gv.TV.fn 100 [] [])] true), (67, .cells 3 [.int .i64] true), (68, .cells 23 [.lst (.int .i64)] true), (69, .loop 99 Go.LoopState.ready (Option.none) (fiIn Go.Proofs.Tryz.prog hint 99) [(2, .one (.fix (Go.Gv.TV.ptr 65 0))), (3, .one (.fix (Go.Gv.TV.ptr 66 0))), (5, .one (.fix (Go.Gv.TV.ptr 67 0)))] (rangeIn Go.Proofs.Tryz.prog 99 5).1 (rangeIn Go.Proofs.Tryz.prog 99 5).2.1 (rangeIn Go.Proofs.Tryz.prog 99 5).2.2)], 70, 70, 2008⟩
noncomputable def L187_1_T : Tm := ⟨[(0, .one (.fix (Go.Gv.TV.yld 69))), (1, .one (.fix (Go.Gv.TV.ptr 68 0))), (3, .one (.int .i64))], [(64, .arr 3 (.int .i64) true true true), (65, .cells 23 [.lst (.int .i64)] true), (66, .cells 78 [.fix (Go.Gv.TV.fn 100 [] [])] true), (67, .cells 3 [.int .i64] true), (68, .cells 23 [.lst (.int .i64)] true), (69, .loop 99 Go.LoopState.ready (Option.none) (fiIn Go.Proofs.Tryz.prog hint 99) [(2, .one (.fix (Go.Gv.TV.ptr 65 0))), (3, .one (.fix (Go.Gv.TV.ptr 66 0))), (5, .one (.fix (Go.Gv.TV.ptr 67 0)))] (rangeIn Go.Proofs.Tryz.prog 99 5).1 (rangeIn Go.Proofs.Tryz.prog 99 5).2.1 (rangeIn Go.Proofs.Tryz.prog 99 5).2.2)], 70, 70, 2008⟩
noncomputable def L187_1 : Nat → Int → (List Int) → (List Int) → Int → (List Int) → Option (Unit × ((List Int) × (((List Int) × Unit) × ((Unit × Unit) × ((Int × Unit) × (((List Int) × Unit) × ((Unit × (Unit × (Unit × Unit))) × Unit)))))))
  | 0, _, _, _, _, _ => none
  | n + 1, t3, a64, c65_0, c67_0, c68_0 =>
    bif ((Go.Iv.ile (0 : Int) t3) && (Go.Iv.ile t3 (len c68_0))) then
    Option.bind (sign (n + 1) (List.take ((List.length c68_0) - (Int.toNat t3)) (List.drop (Int.toNat t3) c68_0))) fun y9 =>
    bif (y9.1 == (0 : Int)) then
      some ((), (a64, ((c65_0, ()), (((), ()), ((c67_0, ()), ((c68_0, ()), (((), ((), ((), ()))), ())))))))
    else
    bif (Go.Iv.ile (0 : Int) t3) then
    Option.bind (c65_0[(Int.toNat t3)]?) fun _ =>
    L187_1 n (Go.IntKind.wrap Go.IntKind.i64 (t3 + y9.1)) a64 c65_0 (Go.IntKind.wrap Go.IntKind.i64 (t3 + y9.1)) c68_0
    else none
    else none
noncomputable def L187_1_it : LoopIt := ⟨187, 1, none, L187_1_T, [(.ret, L187_1_Xret)], 3, fun n x => L187_1 n x.1.2.2.1 x.2.1 x.2.2.1.1 x.2.2.2.2.1.1 x.2.2.2.2.2.1.1⟩
theorem L187_1_Xret_ok : L187_1_Xret.ok Go.Proofs.Tryz.prog hint := by
  intro p hp
  simp only [L187_1_Xret, List.mem_cons, List.not_mem_nil, or_false] at hp
  rcases hp with rfl | rfl | rfl | rfl | rfl | rfl
  · trivial
  · trivial
  · trivial
  · trivial
  · trivial
  · exact Uniq.of (by kernel_rfl) (by kernel_rfl)
theorem L187_1_T_ok : L187_1_T.ok Go.Proofs.Tryz.prog hint := by
  intro p hp
  simp only [L187_1_T, List.mem_cons, List.not_mem_nil, or_false] at hp
  rcases hp with rfl | rfl | rfl | rfl | rfl | rfl
  · trivial
  · trivial
  · trivial
  · trivial
  · trivial
  · exact Uniq.of (by kernel_rfl) (by kernel_rfl)
theorem L187_1_ok : ∀ n, LoopOK Go.Proofs.Tryz.prog hint shT L187_1_it n :=
  LoopOK.of (hk := fun β => (Known.mk [sign_it] []).hk β) (sh := shT) (OneLoop.of (by kernel_rfl)) L187_1_T_ok ⟨⟨L187_1_Xret_ok, Nat.le_refl _, Nat.le_refl _⟩, trivial⟩ (fun m => KnownOK.hook (KnownOK.nil.fn sign_ok) m)
    (fun _ => by kernel_rfl) (fun m x => by kernel_rfl)

noncomputable def valid (n : Nat) (tag : List UInt8) : Option (Bool × Unit) :=
  Option.bind (L65_3 (n + 5) ([] : List Int) tag (len tag) (0 : Int)) fun y4 =>
  bif (Go.Iv.ilt (0 : Int) (len y4.1.1)) then
    Option.bind (L187_1 n (0 : Int) y4.1.1 y4.1.1 (0 : Int) y4.1.1) fun y11 =>
    some ((y11.2.2.2.2.1.1 == (len y11.2.1)), ())
  else
  some (Bool.false, ())
noncomputable def valid_it : FnIt := ⟨65, [(false, .str)], [(false, .bool)], 5, fun n x => valid n x.1⟩
theorem valid_ok (n : Nat) : FnOK Go.Proofs.Tryz.prog hint shT valid_it n :=
  FnOK.of (hk := fun β => (Known.mk [] [L187_1_it, L65_3_it]).hk β) (sh := shT) (fun m _ => KnownOK.hook ((KnownOK.nil.loop L65_3_ok L65_3_T_ok).loop L187_1_ok L187_1_T_ok) m) (fun x => by kernel_rfl)


end Go.Proofs.YtjfnjfneacfghaaGreatDoor

/- Which tags may be: the program's way and the document's. -/
namespace Go.Proofs.YtjfnjfneacfghaaGreatDoor
open Go Go.Iv Go.Gv
set_option maxRecDepth 10000

def hexB (c : Int) : Bool := decide ((48 ≤ c ∧ c ≤ 57) ∨ (97 ≤ c ∧ c ≤ 102) ∨ (65 ≤ c ∧ c ≤ 70))
def wordB (c : Int) : Bool := decide ((48 ≤ c ∧ c ≤ 57) ∨ (97 ≤ c ∧ c ≤ 122) ∨ (65 ≤ c ∧ c ≤ 90) ∨ c = 45)
def sg : List UInt8 := [35, 59, 47, 63, 58, 64, 38, 61, 43, 36, 44, 95, 46, 33, 126, 42, 39, 40, 41, 91, 93]
def amg (l : List UInt8) (c : Int) : Bool := l.any fun x => ub x == c
theorem bnd (a b c : Int) : (bif Go.Iv.ile a c then some (Go.Iv.ile c b) else some Bool.false) = some (decide (a ≤ c ∧ c ≤ b)) := by
  rw [ile_eq, ile_eq]
  by_cases h1 : a ≤ c <;> by_cases h2 : c ≤ b <;> simp [h1, h2]

theorem hex_spec (n : Nat) (c : Int) : ∃ v, hex n c = some (v, ()) ∧ Go.Iv.ile 0 v = hexB c := by
  unfold hex hexB
  simp only [bnd, Option.bind_some]
  by_cases h1 : 48 ≤ c ∧ c ≤ 57
  · rw [decide_eq_true h1]
    refine ⟨_, rfl, ?_⟩
    rw [wrap_id (by omega) (by omega), ile_t (by omega), decide_eq_true (.inl h1)]
  rw [decide_eq_false h1]
  by_cases h2 : 97 ≤ c ∧ c ≤ 102
  · rw [decide_eq_true h2]
    refine ⟨_, rfl, ?_⟩
    rw [wrap_id (x := c - 97) (by omega) (by omega), wrap_id (by omega) (by omega), ile_t (by omega), decide_eq_true (.inr (.inl h2))]
  rw [decide_eq_false h2]
  by_cases h3 : 65 ≤ c ∧ c ≤ 70
  · rw [decide_eq_true h3]
    refine ⟨_, rfl, ?_⟩
    rw [wrap_id (x := c - 65) (by omega) (by omega), wrap_id (by omega) (by omega), ile_t (by omega), decide_eq_true (.inr (.inr h3))]
  rw [decide_eq_false h3]
  refine ⟨_, rfl, ?_⟩
  rw [ile_f (by omega), decide_eq_false (by omega)]
theorem hexR_spec (n : Nat) (c : Int) : ∃ v, hexR n c = some (v, ()) ∧ Go.Iv.ile 0 v = hexB c := hex_spec n c

theorem word_spec (n : Nat) (c : Int) : word n c = some (wordB c, ()) := by
  unfold word wordB
  simp only [bnd, Option.bind_some]
  by_cases h1 : 48 ≤ c ∧ c ≤ 57 <;> by_cases h2 : 97 ≤ c ∧ c ≤ 122 <;> by_cases h3 : 65 ≤ c ∧ c ≤ 90 <;> by_cases h4 : c = 45 <;>
    first
    | (exfalso; omega)
    | simp [h1, h2, h3, h4]
theorem wordR_spec (n : Nat) (c : Int) : wordR n c = some (wordB c, ()) := by
  unfold wordR wordB
  simp only [ile_eq]
  by_cases h1 : 48 ≤ c <;> by_cases h2 : c ≤ 57 <;> by_cases h3 : 97 ≤ c <;> by_cases h4 : c ≤ 122 <;> by_cases h5 : 65 ≤ c <;> by_cases h6 : c ≤ 90 <;> by_cases h7 : c = 45 <;>
    first
    | (exfalso; omega)
    | simp [h1, h2, h3, h4, h5, h6, h7]

theorem among_loop (s : List UInt8) (c : Int) (hs : s.length < 1000000) : ∀ (r : List UInt8) (i n : Nat), s.drop i = r → r.length + 1 ≤ n → i ≤ s.length → L63_2 n s c (i : Int) = if amg r c then some (.inr ((true, ()), ())) else some (.inl ((), ())) := by
  intro r
  induction r with
  | nil =>
    intro i n hr hn hi
    obtain ⟨n, rfl⟩ : ∃ k, n = k + 1 := ⟨n - 1, by omega⟩
    have hlen : s.length ≤ i := by simpa using hr
    simp only [L63_2, len, ilt_f (show (s.length : Int) ≤ i by omega), cond_false]
    rfl
  | cons x r ih =>
    intro i n hr hn hi
    obtain ⟨n, rfl⟩ : ∃ k, n = k + 1 := ⟨n - 1, by omega⟩
    have hlen : s.length = i + (r.length + 1) := by
      have := congrArg List.length hr
      simp at this; omega
    have hx : s[i]? = some x := by have := at_drop hr 0; simpa using this
    have hr2 : s.drop (i + 1) = r := by rw [← List.drop_drop, hr]; rfl
    have w : IntKind.wrap .i64 ((i : Int) + 1) = ((i + 1 : Nat) : Int) := by rw [wrap_id] <;> omega
    have e0 : (Int.toNat (i : Int)) = i := rfl
    simp only [L63_2, len, ilt_t (show (i : Int) < s.length by omega), ile_t (show (0 : Int) ≤ i by omega), cond_true, e0, hx, Option.bind_some, ub_wrap, w]
    cases hb : (ub x == c) with
    | true => simp [amg, hb]
    | false =>
      simp only [cond_false]
      rw [ih (i + 1) n hr2 (by simp at hn; omega) (by omega)]
      simp [amg, hb]
theorem amongR_spec (n : Nat) (s : List UInt8) (c : Int) (hs : s.length < 1000000) (hn : s.length ≤ n) : amongR n s c = some (amg s c, ()) := by
  unfold amongR
  rw [show (0 : Int) = ((0 : Nat) : Int) from rfl, among_loop s c hs s 0 (n + 1) rfl (by omega) (by omega)]
  cases amg s c <;> rfl

theorem sgn_loop (c : Int) (q : List Int) : ∀ (r : List UInt8) (i n : Nat), sg.drop i = r → r.length + 1 ≤ n → i ≤ 21 → L188_10 n (c :: q) sg 21 (i : Int) = if amg r c then some (.inr ((1, ()), ())) else some (.inl ((), ())) := by
  intro r
  induction r with
  | nil =>
    intro i n hr hn hi
    obtain ⟨n, rfl⟩ : ∃ k, n = k + 1 := ⟨n - 1, by omega⟩
    have hlen : sg.length ≤ i := by simpa using hr
    have : sg.length = 21 := rfl
    simp only [L188_10, ilt_f (show (21 : Int) ≤ i by omega), cond_false]
    rfl
  | cons x r ih =>
    intro i n hr hn hi
    obtain ⟨n, rfl⟩ : ∃ k, n = k + 1 := ⟨n - 1, by omega⟩
    have hlen : 21 = i + (r.length + 1) := by
      have := congrArg List.length hr
      have h21 : sg.length = 21 := rfl
      simp only [List.length_drop, List.length_cons, h21] at this; omega
    have hx : sg[i]? = some x := by have := at_drop hr 0; simpa using this
    have hr2 : sg.drop (i + 1) = r := by rw [← List.drop_drop, hr]; rfl
    have w : IntKind.wrap .i64 ((i : Int) + 1) = ((i + 1 : Nat) : Int) := by rw [wrap_id] <;> omega
    have e0 : (Int.toNat (i : Int)) = i := rfl
    simp only [L188_10, ilt_t (show (i : Int) < 21 by omega), ile_t (show (0 : Int) ≤ i by omega), cond_true, e0, hx, Option.bind_some, ub_wrap, w, List.getElem?_cons_zero]
    have hc : (c == ub x) = (ub x == c) := by rw [Bool.eq_iff_iff, beq_iff_eq, beq_iff_eq]; exact eq_comm
    rw [hc]
    cases hb : (ub x == c) with
    | true => simp [amg, hb]
    | false =>
      simp only [cond_false]
      rw [ih (i + 1) n hr2 (by simp at hn; omega) (by omega)]
      simp [amg, hb]

/-- How many code points the URI sign at a list's beginning has. -/
def stepU : List Int → Nat
  | [] => 0
  | c :: r => if c = 37 then (match r with
      | a :: b :: _ => bif hexB a && hexB b then 3 else 0
      | _ => 0) else bif wordB c then 1 else bif amg sg c then 1 else 0
theorem stepU_le : ∀ l : List Int, stepU l ≤ l.length := by
  intro l
  cases l with
  | nil => exact Nat.le_refl _
  | cons c r =>
    simp only [stepU]
    by_cases hc : c = 37
    · rw [if_pos hc]
      match r with
      | [] => simp
      | [a] => simp
      | a :: b :: r => cases h1 : hexB a <;> cases h2 : hexB b <;> simp [h1, h2]
    · rw [if_neg hc]
      cases h1 : wordB c <;> cases h2 : amg sg c <;> simp

theorem sign_spec (n : Nat) (l : List Int) (hn : 30 ≤ n) (hl : l.length < 1000000000) : sign n l = some (((stepU l : Nat) : Int), ()) := by
  unfold sign
  cases l with
  | nil => rfl
  | cons c r =>
    have h0 : ((len (c :: r)) == (0 : Int)) = false := by
      rw [beq_eq_false_iff_ne]; simp only [len, List.length_cons]; omega
    simp only [h0, cond_false, List.getElem?_cons_zero, Option.bind_some, stepU]
    cases hc : (c == (37 : Int)) with
    | true =>
      rw [if_pos (eq_of_beq hc)]
      simp only [cond_true, len]
      match r, hl with
      | [], _ => rfl
      | [a], _ => rfl
      | a :: b :: r, hl =>
        simp only [List.length_cons] at hl ⊢
        obtain ⟨v1, e1, f1⟩ := hex_spec n a
        obtain ⟨v2, e2, f2⟩ := hex_spec n b
        rw [ilt_t (by omega)]
        simp only [cond_true, List.getElem?_cons_succ, List.getElem?_cons_zero, Option.bind_some, e1, e2, f1, f2]
        cases hexB a <;> cases hexB b <;> rfl
    | false =>
      rw [if_neg (beq_eq_false_iff_ne.1 hc)]
      simp only [cond_false, word_spec, Option.bind_some]
      cases wordB c with
      | true => rfl
      | false =>
        simp only [cond_false]
        have := sgn_loop c r sg 0 (n + 2) rfl (by have : sg.length = 21 := rfl; omega) (by omega)
        refine (congrArg (fun z => Option.bind z _) this).trans ?_
        cases amg sg c <;> rfl

theorem uriR_spec (n : Nat) (l : List Int) (i : Nat) (hn : 30 ≤ n) (hl : l.length < 1000000000) (hi : i ≤ l.length) : uriR n l (i : Int) = some (((stepU (l.drop i) : Nat) : Int), ()) := by
  unfold uriR
  cases hr : l.drop i with
  | nil =>
    have hlen : l.length ≤ i := by simpa using hr
    simp only [len, ile_t (show (l.length : Int) ≤ i by omega), cond_true]
    rfl
  | cons c r =>
    have hlen : l.length = i + (r.length + 1) := by
      have := congrArg List.length hr
      simp at this; omega
    have hx : l[i]? = some c := by have := at_drop hr 0; simpa using this
    have e0 : (Int.toNat (i : Int)) = i := rfl
    have w1 : IntKind.wrap .i64 ((i : Int) + 1) = ((i + 1 : Nat) : Int) := by rw [wrap_id] <;> omega
    have w2 : IntKind.wrap .i64 ((i : Int) + 2) = ((i + 2 : Nat) : Int) := by rw [wrap_id] <;> omega
    have e1 : (Int.toNat ((i + 1 : Nat) : Int)) = i + 1 := rfl
    have e2 : (Int.toNat ((i + 2 : Nat) : Int)) = i + 2 := rfl
    have ha : amongR n ([(35 : UInt8), (59 : UInt8), (47 : UInt8), (63 : UInt8), (58 : UInt8), (64 : UInt8), (38 : UInt8), (61 : UInt8), (43 : UInt8), (36 : UInt8), (44 : UInt8), (95 : UInt8), (46 : UInt8), (33 : UInt8), (126 : UInt8), (42 : UInt8), (39 : UInt8), (40 : UInt8), (41 : UInt8), (91 : UInt8), (93 : UInt8)] : List UInt8) c = some (amg sg c, ()) := amongR_spec n sg c (by decide) (by have : sg.length = 21 := rfl; omega)
    simp only [len, ile_f (show (i : Int) < l.length by omega), cond_false, ile_t (show (0 : Int) ≤ i by omega), cond_true, e0, hx, Option.bind_some, wordR_spec, ha, w1, w2, e1, e2, stepU]
    cases hc : (c == (37 : Int)) with
    | true =>
      have : c = 37 := eq_of_beq hc
      subst this
      have z1 : wordB 37 = false := by decide
      have z2 : amg sg 37 = false := by decide
      simp only [z1, z2, cond_false, cond_true, if_true]
      match r, hr, hlen with
      | [], hr, hlen => simp only [List.length_nil] at hlen; rw [ilt_f (by omega)]; rfl
      | [a], hr, hlen => simp only [List.length_cons, List.length_nil] at hlen; rw [ilt_f (by omega)]; rfl
      | a :: b :: r, hr, hlen =>
        simp only [List.length_cons] at hlen
        have q1 : l[i + 1]? = some a := by have := at_drop hr 1; simpa using this
        have q2 : l[i + 2]? = some b := by have := at_drop hr 2; simpa using this
        obtain ⟨v1, e1, f1⟩ := hexR_spec (n + 1) a
        obtain ⟨v2, e2, f2⟩ := hexR_spec (n + 1) b
        rw [ilt_t (by omega), ile_t (show (0 : Int) ≤ ((i + 1 : Nat) : Int) by omega), ile_t (show (0 : Int) ≤ ((i + 2 : Nat) : Int) by omega)]
        simp only [cond_true, q1, q2, Option.bind_some, e1, e2, f1, f2]
        cases hexB a <;> cases hexB b <;> rfl
    | false =>
      rw [if_neg (beq_eq_false_iff_ne.1 hc)]
      simp only [cond_false]
      cases wordB c <;> cases amg sg c <;> rfl

/-- Are all of them URI signs? -/
def okU : Nat → List Int → Bool
  | _, [] => true
  | 0, _ :: _ => false
  | n + 1, c :: r => bif Nat.beq (stepU (c :: r)) 0 then false else okU n ((c :: r).drop (stepU (c :: r)))

attribute [local irreducible] stepU sign uriR

theorem chainR (l : List Int) (hl : l.length < 100000000) : ∀ (m : Nat) (r : List Int) (i n : Nat), l.drop i = r → r.length ≤ m → i ≤ l.length → m + 40 ≤ n → L16_5 n l (i : Int) = if okU m r then some (.inl ((), ())) else some (.inr ((false, ()), ())) := by
  intro m
  induction m with
  | zero =>
    intro r i n hr hm hi hn
    obtain ⟨n, rfl⟩ : ∃ k, n = k + 1 := ⟨n - 1, by omega⟩
    have : r = [] := List.length_eq_zero_iff.1 (by omega)
    subst this
    have hlen : l.length ≤ i := by simpa using hr
    simp only [L16_5, len, ilt_f (show (l.length : Int) ≤ i by omega), cond_false]
    rfl
  | succ m ih =>
    intro r i n hr hm hi hn
    obtain ⟨n, rfl⟩ : ∃ k, n = k + 1 := ⟨n - 1, by omega⟩
    cases r with
    | nil =>
      have hlen : l.length ≤ i := by simpa using hr
      simp only [L16_5, len, ilt_f (show (l.length : Int) ≤ i by omega), cond_false]
      rfl
    | cons c r =>
      have hlen : l.length = i + (r.length + 1) := by
        have := congrArg List.length hr
        simp at this; omega
      have hs := stepU_le (c :: r)
      simp only [List.length_cons] at hs hm
      simp only [L16_5, len, ilt_t (show (i : Int) < l.length by omega), cond_true, uriR_spec (n + 1) l i (by omega) (by omega) (by omega), hr, Option.bind_some, okU]
      rcases Bool.eq_false_or_eq_true (Nat.beq (stepU (c :: r)) 0) with hz | hz
      · have := Nat.eq_of_beq_eq_true hz
        simp only [this]; rfl
      · have hne : stepU (c :: r) ≠ 0 := fun h => by rw [h] at hz; cases hz
        have z : (((stepU (c :: r) : Nat) : Int) == 0) = false := by rw [beq_eq_false_iff_ne]; omega
        have w : IntKind.wrap .i64 ((i : Int) + ((stepU (c :: r) : Nat) : Int)) = ((i + stepU (c :: r) : Nat) : Int) := by rw [wrap_id] <;> omega
        simp only [z, hz, cond_false, w]
        exact ih _ _ n (by rw [← List.drop_drop, hr]) (by simp; omega) (by omega) (by omega)

theorem chainP (l : List Int) (hl : l.length < 100000000) : ∀ (m : Nat) (r : List Int) (i n : Nat), l.drop i = r → r.length ≤ m → i ≤ l.length → m + 40 ≤ n → ∃ y, L187_1 n (i : Int) l l (i : Int) l = some y ∧ y.2.1 = l ∧ (y.2.2.2.2.1.1 == len l) = okU m r := by
  intro m
  induction m with
  | zero =>
    intro r i n hr hm hi hn
    obtain ⟨n, rfl⟩ : ∃ k, n = k + 1 := ⟨n - 1, by omega⟩
    have : r = [] := List.length_eq_zero_iff.1 (by omega)
    subst this
    have hlen : l.length ≤ i := by simpa using hr
    have e0 : (Int.toNat (i : Int)) = i := rfl
    have hs : stepU [] = 0 := by unfold stepU; rfl
    have hd0 : List.take (l.length - i) (List.drop i l) = [] := (tkd l i).trans hr
    simp only [L187_1, len, ile_t (show (0 : Int) ≤ i by omega), ile_t (show (i : Int) ≤ l.length by omega), Bool.and_self, cond_true, e0, hd0, sign_spec (n + 1) [] (by omega) (by simp), Option.bind_some, hs]
    refine ⟨_, rfl, by rfl, ?_⟩
    show ((i : Int) == (l.length : Int)) = true
    rw [beq_iff_eq]; omega
  | succ m ih =>
    intro r i n hr hm hi hn
    obtain ⟨n, rfl⟩ : ∃ k, n = k + 1 := ⟨n - 1, by omega⟩
    have e0 : (Int.toNat (i : Int)) = i := rfl
    have hrl : r.length ≤ l.length := by rw [← hr]; simp
    have hs := stepU_le r
    have hd0 : List.take (l.length - i) (List.drop i l) = r := (tkd l i).trans hr
    simp only [L187_1, len, ile_t (show (0 : Int) ≤ i by omega), ile_t (show (i : Int) ≤ l.length by omega), Bool.and_self, cond_true, e0, hd0, sign_spec (n + 1) r (by omega) (by omega), Option.bind_some]
    cases r with
    | nil =>
      have hlen : l.length ≤ i := by simpa using hr
      have hs : stepU [] = 0 := by unfold stepU; rfl
      rw [hs]
      refine ⟨_, rfl, by rfl, ?_⟩
      show ((i : Int) == (l.length : Int)) = true
      rw [beq_iff_eq]; omega
    | cons c r =>
      have hlen : l.length = i + (r.length + 1) := by
        have := congrArg List.length hr
        simp at this; omega
      simp only [List.length_cons] at hs hm
      simp only [okU]
      cases hz : Nat.beq (stepU (c :: r)) 0 with
      | true =>
        have := Nat.eq_of_beq_eq_true hz
        rw [this]
        refine ⟨_, rfl, by rfl, ?_⟩
        show ((i : Int) == (l.length : Int)) = false
        rw [beq_eq_false_iff_ne]; omega
      | false =>
        have hne : stepU (c :: r) ≠ 0 := fun h => by rw [h] at hz; cases hz
        have z : (((stepU (c :: r) : Nat) : Int) == 0) = false := by rw [beq_eq_false_iff_ne]; omega
        have w : IntKind.wrap .i64 ((i : Int) + ((stepU (c :: r) : Nat) : Int)) = ((i + stepU (c :: r) : Nat) : Int) := by rw [wrap_id] <;> omega
        have hx : l[i]? = some c := by have := at_drop hr 0; simpa using this
        simp only [z, cond_false, w, hx, Option.bind_some]
        exact ih _ _ n (by rw [← List.drop_drop, hr]) (by simp; omega) (by omega) (by omega)

theorem bytesL (tag : List UInt8) (ht : tag.length < 10000000) : ∀ (r : List UInt8) (i n : Nat) (o : List Int), tag.drop i = r → r.length + 1 ≤ n → i ≤ tag.length → o.length + r.length < 10000000 → L65_3 n o tag (len tag) (i : Int) = some ((o ++ r.map ub, ()), ()) := by
  intro r
  induction r with
  | nil =>
    intro i n o hr hn hi ho
    obtain ⟨n, rfl⟩ : ∃ k, n = k + 1 := ⟨n - 1, by omega⟩
    have hlen : tag.length ≤ i := by simpa using hr
    simp only [L65_3, len, ilt_f (show (tag.length : Int) ≤ i by omega), cond_false, List.map_nil, List.append_nil]
  | cons x r ih =>
    intro i n o hr hn hi ho
    obtain ⟨n, rfl⟩ : ∃ k, n = k + 1 := ⟨n - 1, by omega⟩
    have hlen : tag.length = i + (r.length + 1) := by
      have := congrArg List.length hr
      simp at this; omega
    have hx : tag[i]? = some x := by have := at_drop hr 0; simpa using this
    have hr2 : tag.drop (i + 1) = r := by rw [← List.drop_drop, hr]; rfl
    have w : IntKind.wrap .i64 ((i : Int) + 1) = ((i + 1 : Nat) : Int) := by rw [wrap_id] <;> omega
    have e0 : (Int.toNat (i : Int)) = i := rfl
    simp only [List.length_cons] at hn ho
    simp only [L65_3, len, ilt_t (show (i : Int) < tag.length by omega), ile_t (show (0 : Int) ≤ i by omega), cond_true, e0, hx, Option.bind_some, ub_wrap, w, List.length_cons, List.length_nil, roomle (show (o.length + (0 + 1)) * 9 ≤ 1099511627776 by omega)]
    have := ih (i + 1) n (o ++ [ub x]) hr2 (by omega) (by omega) (by simp; omega)
    simp only [len] at this
    rw [this]
    simp

def validB (tag : List UInt8) : Bool := !tag.isEmpty && okU tag.length (tag.map ub)
theorem valid_spec (n : Nat) (tag : List UInt8) (ht : tag.length < 1000000) (hn : tag.length + 60 ≤ n) : valid n tag = some (validB tag, ()) := by
  unfold valid
  rw [show (0 : Int) = ((0 : Nat) : Int) from rfl, bytesL tag (by omega) tag 0 (n + 5) [] rfl (by omega) (by omega) (by simp; omega)]
  simp only [Option.bind_some, List.nil_append]
  cases tag with
  | nil => rfl
  | cons a r =>
    obtain ⟨y, h1, h2, h3⟩ := chainP ((a :: r).map ub) (by simp at ht ⊢; omega) (a :: r).length ((a :: r).map ub) 0 n rfl (by simp) (by omega) (by omega)
    have : Go.Iv.ilt ((0 : Nat) : Int) (len ((a :: r).map ub)) = true := ilt_t (by simp only [len, List.length_map, List.length_cons]; omega)
    rw [this, cond_true, h1]
    simp only [Option.bind_some]
    rw [h2, h3]
    rfl

theorem textP_spec (n : Nat) (b : List UInt8) (hb : b.length < 4194304) (hn : b.length + 12 ≤ n) : textP n b = some (match d8 b.length b with
    | some xs => (xs, (true, ()))
    | none => ([], (false, ()))) := by
  unfold textP
  rw [smallR_spec n b hb hn]
  cases d8 b.length b <;> rfl

theorem d8_len : ∀ (m : Nat) (b : List UInt8) (xs : List Int), d8 m b = some xs → xs.length ≤ b.length := by
  intro m
  induction m with
  | zero => intro b xs h; cases b with
    | nil => cases h; simp
    | cons => cases h
  | succ m ih =>
    intro b xs h
    cases b with
    | nil => cases h; simp
    | cons a r =>
      unfold d8 at h
      split at h
      · cases h
      · rename_i c k hp
        obtain ⟨k1, k2, k3, k4, k5⟩ := pt_ok hp
        cases hd : d8 m ((a :: r).drop k) with
        | none => rw [hd] at h; cases h
        | some ys =>
          rw [hd] at h; cases h
          have := ih _ _ hd
          simp only [List.length_drop, List.length_cons] at this ⊢
          simp only [List.length_cons] at k3
          omega

def validRB (tag : List UInt8) : Bool := match d8 tag.length tag with
  | some xs => !xs.isEmpty && okU xs.length xs
  | none => false
theorem validR_spec (n : Nat) (tag : List UInt8) (ht : tag.length < 1000000) (hn : tag.length + 60 ≤ n) : validR n tag = some (validRB tag, ()) := by
  unfold validR validRB
  rw [textP_spec n tag (by omega) (by omega)]
  simp only [Option.bind_some]
  cases hd : d8 tag.length tag with
  | none => rfl
  | some xs =>
    have hl := d8_len _ _ _ hd
    simp only [Bool.not_true, cond_false, Option.bind_some]
    cases xs with
    | nil => rfl
    | cons c r =>
      have z : (len (c :: r) == (0 : Int)) = false := by rw [beq_eq_false_iff_ne]; simp only [len, List.length_cons]; omega
      rw [z, cond_false, show (0 : Int) = ((0 : Nat) : Int) from rfl, chainR (c :: r) (by omega) (c :: r).length (c :: r) 0 (n + 1) rfl (Nat.le_refl _) (by omega) (by omega)]
      simp only [List.isEmpty_cons, Bool.not_false, Bool.true_and]
      cases okU (c :: r).length (c :: r) <;> rfl
end Go.Proofs.YtjfnjfneacfghaaGreatDoor

/- Plain functions for the program's. -/
namespace Go.Proofs.YtjfnjfneacfghaaGreatDoor
open Go Go.Iv Go.Gv
set_option maxRecDepth 100000
set_option linter.unusedVariables false
noncomputable def textOk (_n : Nat) (s : List UInt8) : Option (Bool × Unit) :=
  bif (Go.Iv.ile (len s) (262144 : Int)) then
    bif (Nat.ble (List.length s) 9223372036854775807) then
    some ((Go.Lib.validD s), ())
    else none
  else
  some (Bool.false, ())
noncomputable def textOk_it : FnIt := ⟨66, [(false, .str)], [(false, .bool)], 1, fun n x => textOk n x.1⟩
theorem textOk_ok (n : Nat) : FnOK Go.Proofs.Tryz.prog hint shT textOk_it n :=
  FnOK.of (hk := fun β => (Known.mk [] []).hk β) (sh := shT) (fun m _ => KnownOK.hook KnownOK.nil m) (fun x => by kernel_rfl)

noncomputable def L40_2_Xexit0 : Tm := ⟨[], [(64, .cells 25 [.lst (.cons (.int .i64) (.cons .str (.cons .str (.cons (.slc (.int .i64)) .bool)))), .lst (.int .i64)] true)], 65, 65, 1001⟩
noncomputable def L40_2_Xret : Tm := ⟨[(4, .one (.bool))], [(64, .cells 25 [.lst (.cons (.int .i64) (.cons .str (.cons .str (.cons (.slc (.int .i64)) .bool)))), .lst (.int .i64)] true)], 65, 65, 1001⟩
noncomputable def L40_2_T : Tm := ⟨[(2, .one (.fix (Go.Gv.TV.ptr 64 0))), (7, .one (.lst (.int .i64))), (8, .one (.int .i64)), (9, .one (.int .i64))], [(64, .cells 25 [.lst (.cons (.int .i64) (.cons .str (.cons .str (.cons (.slc (.int .i64)) .bool)))), .lst (.int .i64)] true)], 65, 65, 1001⟩
noncomputable def L40_2 : Nat → (List Int) → Int → Int → (List (Int × (List UInt8 × (List UInt8 × (List Int × Bool))))) → (List Int) → Option ((Unit × (((List (Int × (List UInt8 × (List UInt8 × (List Int × Bool))))) × ((List Int) × Unit)) × Unit)) ⊕ ((Bool × Unit) × (((List (Int × (List UInt8 × (List UInt8 × (List Int × Bool))))) × ((List Int) × Unit)) × Unit)))
  | 0, _, _, _, _, _ => none
  | n + 1, t7, t8, t9, c64_0, c64_1 =>
    bif (Go.Iv.ilt t9 t8) then
      bif (Go.Iv.ile (0 : Int) t9) then
      Option.bind (t7[(Int.toNat t9)]?) fun x6 =>
      Option.bind (bif (Go.Iv.ilt x6 (0 : Int)) then
          some Bool.true
        else
        some (Go.Iv.ile (len c64_0) x6)) fun b8 =>
      bif b8 then
        some (.inr ((Bool.false, ()), ((c64_0, (c64_1, ())), ())))
      else
      L40_2 n t7 t8 (Go.IntKind.wrap Go.IntKind.i64 (t9 + (1 : Int))) c64_0 c64_1
      else none
    else
    some (.inl ((), ((c64_0, (c64_1, ())), ())))
noncomputable def L40_2_it : LoopIt := ⟨40, 2, none, L40_2_T, [(.exit 0, L40_2_Xexit0), (.ret, L40_2_Xret)], 0, fun n x => L40_2 n x.1.2.1 x.1.2.2.1 x.1.2.2.2.1 x.2.1.1 x.2.1.2.1⟩
theorem L40_2_Xexit0_ok : L40_2_Xexit0.ok Go.Proofs.Tryz.prog hint := by
  intro p hp
  simp only [L40_2_Xexit0, List.mem_cons, List.not_mem_nil, or_false] at hp
  rcases hp with rfl
  · trivial
theorem L40_2_Xret_ok : L40_2_Xret.ok Go.Proofs.Tryz.prog hint := by
  intro p hp
  simp only [L40_2_Xret, List.mem_cons, List.not_mem_nil, or_false] at hp
  rcases hp with rfl
  · trivial
theorem L40_2_T_ok : L40_2_T.ok Go.Proofs.Tryz.prog hint := by
  intro p hp
  simp only [L40_2_T, List.mem_cons, List.not_mem_nil, or_false] at hp
  rcases hp with rfl
  · trivial
theorem L40_2_ok : ∀ n, LoopOK Go.Proofs.Tryz.prog hint shT L40_2_it n :=
  LoopOK.of (hk := fun β => (Known.mk [] []).hk β) (sh := shT) (OneLoop.of (by kernel_rfl)) L40_2_T_ok ⟨⟨L40_2_Xexit0_ok, Nat.le_refl _, Nat.le_refl _⟩, ⟨L40_2_Xret_ok, Nat.le_refl _, Nat.le_refl _⟩, trivial⟩ (fun m => KnownOK.hook KnownOK.nil m)
    (fun _ => by kernel_rfl) (fun m x => by kernel_rfl)

noncomputable def are (n : Nat) (g : (List (Int × (List UInt8 × (List UInt8 × (List Int × Bool)))) × List Int)) (l : List Int) : Option (Bool × Unit) :=
  Option.bind (L40_2 (n + 1) l (len l) (0 : Int) g.1 g.2) fun y9 =>
  match y9 with
    | .inl _ =>
      some (Bool.true, ())
    | .inr y11 =>
      some (y11.1.1, ())
noncomputable def are_it : FnIt := ⟨40, [(true, (.cons (.slc (.cons (.int .i64) (.cons .str (.cons .str (.cons (.slc (.int .i64)) .bool))))) (.slc (.int .i64)))), (false, (.slc (.int .i64)))], [(false, .bool)], 1, fun n x => are n x.1 x.2.1⟩
theorem are_ok (n : Nat) : FnOK Go.Proofs.Tryz.prog hint shT are_it n :=
  FnOK.of (hk := fun β => (Known.mk [] [L40_2_it]).hk β) (sh := shT) (fun m _ => KnownOK.hook (KnownOK.nil.loop L40_2_ok L40_2_T_ok) m) (fun x => by kernel_rfl)

noncomputable def node (n : Nat) (x : (Int × (List UInt8 × (List UInt8 × (List Int × Bool))))) : Option (Bool × Unit) :=
  bif (Go.Iv.ilt (1000 : Int) (len x.2.1)) then
    some (Bool.false, ())
  else
  bif (x.2.1 == ([(33 : UInt8)] : List UInt8)) then
    some (Bool.false, ())
  else
  Option.bind (valid n x.2.1) fun y0 =>
  bif (!y0.1) then
    some (Bool.false, ())
  else
  bif (x.1 == (1 : Int)) then
    bif ((len x.2.2.2.1) == (0 : Int)) then
      Option.bind (textOk (n + 4) x.2.2.1) fun y1 =>
      some (y1.1, ())
    else
    some (Bool.false, ())
  else
  bif (x.1 == (2 : Int)) then
    Option.bind (bif (x.2.2.1 == ([] : List UInt8)) then
        some (!x.2.2.2.2)
      else
      some Bool.false) fun b3 =>
    some (b3, ())
  else
  bif (x.1 == (3 : Int)) then
    Option.bind (bif (x.2.2.1 == ([] : List UInt8)) then
        bif (!x.2.2.2.2) then
          some ((Int.tmod (len x.2.2.2.1) (2 : Int)) == (0 : Int))
        else
        some Bool.false
      else
      some Bool.false) fun b5 =>
    some (b5, ())
  else
  some (Bool.false, ())
noncomputable def node_it : FnIt := ⟨41, [(true, (.cons (.int .i64) (.cons .str (.cons .str (.cons (.slc (.int .i64)) .bool)))))], [(false, .bool)], 6, fun n x => node n x.1⟩
theorem node_ok (n : Nat) : FnOK Go.Proofs.Tryz.prog hint shT node_it n :=
  FnOK.of (hk := fun β => (Known.mk [textOk_it, valid_it] []).hk β) (sh := shT) (fun m _ => KnownOK.hook ((KnownOK.nil.fn valid_ok).fn textOk_ok) m) (fun x => by kernel_rfl)

noncomputable def L18_5_Xexit0 : Tm := ⟨[], [(64, .cells 25 [.lst (.cons (.int .i64) (.cons .str (.cons .str (.cons (.slc (.int .i64)) .bool)))), .lst (.int .i64)] true)], 65, 65, 1001⟩
noncomputable def L18_5_Xret : Tm := ⟨[(2, .one (.bool))], [(64, .cells 25 [.lst (.cons (.int .i64) (.cons .str (.cons .str (.cons (.slc (.int .i64)) .bool)))), .lst (.int .i64)] true)], 65, 65, 1001⟩
noncomputable def L18_5_T : Tm := ⟨[(1, .one (.fix (Go.Gv.TV.ptr 64 0))), (3, .one (.int .i64)), (24, .one (.lst (.cons (.int .i64) (.cons .str (.cons .str (.cons (.slc (.int .i64)) .bool)))))), (25, .one (.int .i64)), (26, .one (.int .i64))], [(64, .cells 25 [.lst (.cons (.int .i64) (.cons .str (.cons .str (.cons (.slc (.int .i64)) .bool)))), .lst (.int .i64)] true)], 65, 65, 1001⟩
noncomputable def L18_5 : Nat → Int → (List (Int × (List UInt8 × (List UInt8 × (List Int × Bool))))) → Int → Int → (List (Int × (List UInt8 × (List UInt8 × (List Int × Bool))))) → (List Int) → Option ((Unit × (((List (Int × (List UInt8 × (List UInt8 × (List Int × Bool))))) × ((List Int) × Unit)) × Unit)) ⊕ ((Bool × Unit) × (((List (Int × (List UInt8 × (List UInt8 × (List Int × Bool))))) × ((List Int) × Unit)) × Unit)))
  | 0, _, _, _, _, _, _ => none
  | n + 1, t3, t24, t25, t26, c64_0, c64_1 =>
    bif (Go.Iv.ilt t26 t25) then
      bif (Go.Iv.ile (0 : Int) t26) then
      Option.bind (t24[(Int.toNat t26)]?) fun x7 =>
      bif (Go.Iv.ilt (20000 : Int) (Go.IntKind.wrap Go.IntKind.i64 (t3 + (len x7.2.2.2.1)))) then
        some (.inr ((Bool.false, ()), ((c64_0, (c64_1, ())), ())))
      else
      Option.bind (node (n + 1) (x7.1, (x7.2.1, (x7.2.2.1, (x7.2.2.2.1, x7.2.2.2.2))))) fun y8 =>
      bif (!y8.1) then
        some (.inr ((Bool.false, ()), ((c64_0, (c64_1, ())), ())))
      else
      Option.bind (are (n + 6) (c64_0, c64_1) x7.2.2.2.1) fun y9 =>
      bif (!y9.1) then
        some (.inr ((Bool.false, ()), ((c64_0, (c64_1, ())), ())))
      else
      L18_5 n (Go.IntKind.wrap Go.IntKind.i64 (t3 + (len x7.2.2.2.1))) t24 t25 (Go.IntKind.wrap Go.IntKind.i64 (t26 + (1 : Int))) c64_0 c64_1
      else none
    else
    some (.inl ((), ((c64_0, (c64_1, ())), ())))
noncomputable def L18_5_it : LoopIt := ⟨18, 5, none, L18_5_T, [(.exit 0, L18_5_Xexit0), (.ret, L18_5_Xret)], 7, fun n x => L18_5 n x.1.2.1 x.1.2.2.1 x.1.2.2.2.1 x.1.2.2.2.2.1 x.2.1.1 x.2.1.2.1⟩
theorem L18_5_Xexit0_ok : L18_5_Xexit0.ok Go.Proofs.Tryz.prog hint := by
  intro p hp
  simp only [L18_5_Xexit0, List.mem_cons, List.not_mem_nil, or_false] at hp
  rcases hp with rfl
  · trivial
theorem L18_5_Xret_ok : L18_5_Xret.ok Go.Proofs.Tryz.prog hint := by
  intro p hp
  simp only [L18_5_Xret, List.mem_cons, List.not_mem_nil, or_false] at hp
  rcases hp with rfl
  · trivial
theorem L18_5_T_ok : L18_5_T.ok Go.Proofs.Tryz.prog hint := by
  intro p hp
  simp only [L18_5_T, List.mem_cons, List.not_mem_nil, or_false] at hp
  rcases hp with rfl
  · trivial
theorem L18_5_ok : ∀ n, LoopOK Go.Proofs.Tryz.prog hint shT L18_5_it n :=
  LoopOK.of (hk := fun β => (Known.mk [are_it, node_it] []).hk β) (sh := shT) (OneLoop.of (by kernel_rfl)) L18_5_T_ok ⟨⟨L18_5_Xexit0_ok, Nat.le_refl _, Nat.le_refl _⟩, ⟨L18_5_Xret_ok, Nat.le_refl _, Nat.le_refl _⟩, trivial⟩ (fun m => KnownOK.hook ((KnownOK.nil.fn node_ok).fn are_ok) m)
    (fun _ => by kernel_rfl) (fun m x => by kernel_rfl)

noncomputable def right (n : Nat) (g : (List (Int × (List UInt8 × (List UInt8 × (List Int × Bool)))) × List Int)) : Option (Bool × Unit) :=
  bif (Go.Iv.ilt (20000 : Int) (len g.1)) then
    some (Bool.false, ())
  else
  bif (Go.Iv.ilt (20000 : Int) (len g.2)) then
    some (Bool.false, ())
  else
  Option.bind (are (n + 5) (g.1, g.2) g.2) fun y0 =>
  bif (!y0.1) then
    some (Bool.false, ())
  else
  Option.bind (L18_5 n (0 : Int) g.1 (len g.1) (0 : Int) g.1 g.2) fun y10 =>
  match y10 with
    | .inl _ =>
      some (Bool.true, ())
    | .inr y12 =>
      some (y12.1.1, ())
noncomputable def right_it : FnIt := ⟨18, [(true, (.cons (.slc (.cons (.int .i64) (.cons .str (.cons .str (.cons (.slc (.int .i64)) .bool))))) (.slc (.int .i64))))], [(false, .bool)], 7, fun n x => right n x.1⟩
theorem right_ok (n : Nat) : FnOK Go.Proofs.Tryz.prog hint shT right_it n :=
  FnOK.of (hk := fun β => (Known.mk [are_it] [L18_5_it]).hk β) (sh := shT) (fun m _ => KnownOK.hook ((KnownOK.nil.fn are_ok).loop L18_5_ok L18_5_T_ok) m) (fun x => by kernel_rfl)

noncomputable def L5_3_Xexit0 : Tm := ⟨[(1, .one (.fix (Go.Gv.TV.ptr 64 0))), (3, .one (.int .i64))], [(64, .cells 25 [.lst (.cons (.int .i64) (.cons .str (.cons .str (.cons (.slc (.int .i64)) .bool)))), .lst (.int .i64)] true)], 65, 65, 1001⟩
noncomputable def L5_3_T : Tm := ⟨[(1, .one (.fix (Go.Gv.TV.ptr 64 0))), (3, .one (.int .i64)), (4, .one (.int .i64))], [(64, .cells 25 [.lst (.cons (.int .i64) (.cons .str (.cons .str (.cons (.slc (.int .i64)) .bool)))), .lst (.int .i64)] true)], 65, 65, 1001⟩
noncomputable def L5_3 : Nat → Int → Int → (List (Int × (List UInt8 × (List UInt8 × (List Int × Bool))))) → (List Int) → Option ((Unit × (Int × Unit)) × (((List (Int × (List UInt8 × (List UInt8 × (List Int × Bool))))) × ((List Int) × Unit)) × Unit))
  | 0, _, _, _, _ => none
  | n + 1, t3, t4, c64_0, c64_1 =>
    Option.bind (bif (Go.Iv.ilt t4 (len c64_0)) then
        some (Go.Iv.ilt t4 (100 : Int))
      else
      some Bool.false) fun b11 =>
    bif b11 then
      bif (Go.Iv.ile (0 : Int) t4) then
      Option.bind (c64_0[(Int.toNat t4)]?) fun x12 =>
      bif (Go.Iv.ile (0 : Int) t4) then
      Option.bind (c64_0[(Int.toNat t4)]?) fun x13 =>
      bif (Go.Iv.ile (0 : Int) t4) then
      Option.bind (c64_0[(Int.toNat t4)]?) fun x14 =>
      L5_3 n (Go.IntKind.wrap Go.IntKind.i64 ((Go.IntKind.wrap Go.IntKind.i64 ((Go.IntKind.wrap Go.IntKind.i64 (t3 + (len x12.2.2.2.1))) + (Go.IntKind.wrap Go.IntKind.i64 (Int.tdiv (len x13.2.2.1) (20 : Int))))) + (Go.IntKind.wrap Go.IntKind.i64 (Int.tdiv (len x14.2.1) (20 : Int))))) (Go.IntKind.wrap Go.IntKind.i64 (t4 + (1 : Int))) c64_0 c64_1
      else none
      else none
      else none
    else
    some (((), (t3, ())), ((c64_0, (c64_1, ())), ()))
noncomputable def L5_3_it : LoopIt := ⟨5, 3, none, L5_3_T, [(.exit 0, L5_3_Xexit0)], 0, fun n x => L5_3 n x.1.2.1 x.1.2.2.1 x.2.1.1 x.2.1.2.1⟩
theorem L5_3_Xexit0_ok : L5_3_Xexit0.ok Go.Proofs.Tryz.prog hint := by
  intro p hp
  simp only [L5_3_Xexit0, List.mem_cons, List.not_mem_nil, or_false] at hp
  rcases hp with rfl
  · trivial
theorem L5_3_T_ok : L5_3_T.ok Go.Proofs.Tryz.prog hint := by
  intro p hp
  simp only [L5_3_T, List.mem_cons, List.not_mem_nil, or_false] at hp
  rcases hp with rfl
  · trivial
theorem L5_3_ok : ∀ n, LoopOK Go.Proofs.Tryz.prog hint shT L5_3_it n :=
  LoopOK.of (hk := fun β => (Known.mk [] []).hk β) (sh := shT) (OneLoop.of (by kernel_rfl)) L5_3_T_ok ⟨⟨L5_3_Xexit0_ok, Nat.le_refl _, Nat.le_refl _⟩, trivial⟩ (fun m => KnownOK.hook KnownOK.nil m)
    (fun _ => by kernel_rfl) (fun m x => by kernel_rfl)

noncomputable def big (n : Nat) (g : (List (Int × (List UInt8 × (List UInt8 × (List Int × Bool)))) × List Int)) : Option (Bool × Unit) :=
  Option.bind (L5_3 (n + 1) (0 : Int) (0 : Int) g.1 g.2) fun y15 =>
  Option.bind (bif (Go.Iv.ilt (60 : Int) (len y15.2.1.1)) then
      some Bool.true
    else
    bif (Go.Iv.ilt (20 : Int) (len y15.2.1.2.1)) then
      some Bool.true
    else
    some (Go.Iv.ilt (400 : Int) y15.1.2.1)) fun b17 =>
  some (b17, ())
noncomputable def big_it : FnIt := ⟨5, [(true, (.cons (.slc (.cons (.int .i64) (.cons .str (.cons .str (.cons (.slc (.int .i64)) .bool))))) (.slc (.int .i64))))], [(false, .bool)], 1, fun n x => big n x.1⟩
theorem big_ok (n : Nat) : FnOK Go.Proofs.Tryz.prog hint shT big_it n :=
  FnOK.of (hk := fun β => (Known.mk [] [L5_3_it]).hk β) (sh := shT) (fun m _ => KnownOK.hook (KnownOK.nil.loop L5_3_ok L5_3_T_ok) m) (fun x => by kernel_rfl)


end Go.Proofs.YtjfnjfneacfghaaGreatDoor

/- Tags and texts: the program's way and the document's are one. -/
namespace Go.Proofs.YtjfnjfneacfghaaGreatDoor
open Go Go.Iv Go.Gv
set_option maxRecDepth 200000

theorem amg_lt {c : Int} (h : amg sg c = true) : 0 ≤ c ∧ c < 128 := by
  unfold amg at h
  rw [List.any_eq_true] at h
  obtain ⟨x, hx, he⟩ := h
  have e := eq_of_beq he
  have : ∀ x ∈ sg, x.toNat < 128 := by decide
  have := this x hx
  have : ub x = (x.toNat : Int) := rfl
  omega
theorem okU_lt : ∀ (m : Nat) (l : List Int), okU m l = true → ∀ c ∈ l, 0 ≤ c ∧ c < 128 := by
  intro m
  induction m with
  | zero => intro l h c hc; cases l with
    | nil => cases hc
    | cons => cases h
  | succ m ih =>
    intro l h c hc
    cases l with
    | nil => cases hc
    | cons x r =>
      unfold okU at h
      simp only [stepU] at h
      by_cases h37 : x = 37
      · simp only [if_pos h37] at h
        match r, h, hc with
        | [], h, hc => cases h
        | [a], h, hc => cases h
        | a :: b :: r, h, hc =>
          cases h1 : hexB a with
          | false => simp [h1] at h
          | true =>
            cases h2 : hexB b with
            | false => simp [h1, h2] at h
            | true =>
              have h := h
              simp [h1, h2] at h
              have q1 := of_decide_eq_true h1
              have q2 := of_decide_eq_true h2
              rcases List.mem_cons.1 hc with e | hc
              · omega
              rcases List.mem_cons.1 hc with e | hc
              · omega
              rcases List.mem_cons.1 hc with e | hc
              · omega
              exact ih r h.2 c hc
      · simp only [if_neg h37] at h
        cases hw : wordB x with
        | true =>
          simp [hw] at h
          have q := of_decide_eq_true hw
          rcases List.mem_cons.1 hc with e | hc
          · omega
          · exact ih r h.2 c hc
        | false =>
          cases ha : amg sg x with
          | false => simp [hw, ha] at h
          | true =>
            simp [hw, ha] at h
            have q := amg_lt ha
            rcases List.mem_cons.1 hc with e | hc
            · omega
            · exact ih r h.2 c hc

theorem pt_low {a : UInt8} {r : List UInt8} {c : Int} {k : Nat} (h : pt (a :: r) = some (c, k)) (hc : c < 128 ∨ k = 1) : ub a < 128 ∧ c = ub a ∧ k = 1 := by
  have ha := ub_lt a
  have hp := pt.eq_def (a :: r)
  dsimp only at hp
  rw [hp] at h
  split at h
  · rename_i q; cases h; exact ⟨q, rfl, rfl⟩
  split at h
  · cases h
  split at h
  · split at h
    · rename_i b s
      have := ub_lt b
      split at h
      · cases h; unfold v2 at hc; omega
      · cases h
    · cases h
  split at h
  · split at h
    · split at h
      · rename_i hh; cases h; have := hh.2.2.1; omega
      · cases h
    · cases h
  split at h
  · split at h
    · split at h
      · rename_i hh; cases h; have := hh.2.2.2.1; omega
      · cases h
    · cases h
  · cases h

theorem d8_ascii : ∀ (m : Nat) (l : List UInt8), l.length ≤ m → (∀ x ∈ l, ub x < 128) → d8 m l = some (l.map ub) := by
  intro m
  induction m with
  | zero => intro l hl h; cases l with
    | nil => rfl
    | cons => simp at hl
  | succ m ih =>
    intro l hl h
    cases l with
    | nil => rfl
    | cons a r =>
      have hp : pt (a :: r) = some (ub a, 1) := by unfold pt; rw [if_pos (h a (List.mem_cons_self ..))]
      unfold d8
      rw [hp]
      simp only [List.drop_succ_cons, List.drop_zero]
      rw [ih r (by simp at hl; omega) (fun x hx => h x (List.mem_cons_of_mem _ hx))]
      rfl
theorem d8_low : ∀ (m : Nat) (l : List UInt8) (xs : List Int), d8 m l = some xs → (∀ c ∈ xs, c < 128) → ∀ x ∈ l, ub x < 128 := by
  intro m
  induction m with
  | zero => intro l xs h _ x hx; cases l with
    | nil => cases hx
    | cons => cases h
  | succ m ih =>
    intro l xs h hc x hx
    cases l with
    | nil => cases hx
    | cons a r =>
      unfold d8 at h
      split at h
      · cases h
      · rename_i c k hp
        cases hd : d8 m ((a :: r).drop k) with
        | none => rw [hd] at h; cases h
        | some ys =>
          rw [hd] at h; cases h
          obtain ⟨q1, q2, rfl⟩ := pt_low hp (.inl (hc c (List.mem_cons_self ..)))
          rcases List.mem_cons.1 hx with e | hx
          · rw [e]; exact q1
          · exact ih r ys hd (fun c hc' => hc c (List.mem_cons_of_mem _ hc')) x hx

theorem valid_eq (tag : List UInt8) : validB tag = validRB tag := by
  by_cases h : ∀ x ∈ tag, ub x < 128
  · unfold validB validRB
    rw [d8_ascii tag.length tag (Nat.le_refl _) h]
    simp
  · have e1 : validB tag = false := by
      cases hv : validB tag with
      | false => rfl
      | true =>
        unfold validB at hv
        have := okU_lt _ _ (Go.Gv.and_true hv).2
        exact absurd (fun x hx => (this (ub x) (List.mem_map.2 ⟨x, hx, rfl⟩)).2) h
    have e2 : validRB tag = false := by
      cases hv : validRB tag with
      | false => rfl
      | true =>
        unfold validRB at hv
        split at hv
        · rename_i xs hd
          have := okU_lt _ _ (Go.Gv.and_true hv).2
          exact absurd (d8_low _ _ _ hd fun c hc => (this c hc).2) h
        · cases hv
    rw [e1, e2]

/-! ### Texts -/
def dpN : Option (Int × Nat) → Nat × Nat
  | some (c, k) => (c.toNat, k)
  | none => (65533, 1)
set_option maxHeartbeats 4000000 in
theorem dec_pt (a : UInt8) (r : List UInt8) : Go.Lib.decodeL (a :: r) = dpN (pt (a :: r)) := by
  rw [Go.Lib.decodeL_N]
  have ha := a.toNat_lt
  have u : ∀ x : UInt8, ub x = (x.toNat : Int) := fun _ => rfl
  have fin : ∀ {x y : Nat} {k : Nat}, x = y → ((x, k) : Nat × Nat) = (y, k) := fun h => by rw [h]
  match r with
  | [] =>
    show Go.Lib.decodeN 1 a.toNat 0 0 0 = _
    unfold Go.Lib.decodeN
    by_cases h1 : a.toNat < 128
    · have e1 : pt [a] = some (ub a, 1) := by unfold pt; rw [if_pos (by rw [u]; omega)]
      rw [if_pos h1, e1]
      rfl
    · have e1 : pt [a] = none := by
        unfold pt
        rw [if_neg (by rw [u]; omega)]
        repeat' split
        all_goals first | rfl | contradiction
      rw [if_neg h1, if_neg (by omega), if_neg (by omega), if_neg (by omega), e1]
      simp only [dpN]
  | [b] =>
    have hb := b.toNat_lt
    show Go.Lib.decodeN 2 a.toNat b.toNat 0 0 = _
    have hp := pt.eq_def (a :: [b])
    dsimp only at hp
    rw [hp]
    clear hp
    simp only [u, cont, v2, apply_ite dpN]
    unfold Go.Lib.decodeN
    repeat' split
    all_goals first
      | (exfalso; omega)
      | exact fin (by omega)
      | rfl
  | [b, c] =>
    have hb := b.toNat_lt
    have hc := c.toNat_lt
    show Go.Lib.decodeN 3 a.toNat b.toNat c.toNat 0 = _
    have hp := pt.eq_def (a :: [b, c])
    dsimp only at hp
    rw [hp]
    clear hp
    simp only [u, cont, v2, v3, okc, decide_eq_true_eq, apply_ite dpN]
    unfold Go.Lib.decodeN
    repeat' split
    all_goals first
      | (exfalso; omega)
      | exact fin (by omega)
      | rfl
  | b :: c :: d :: s =>
    have hb := b.toNat_lt
    have hc := c.toNat_lt
    have hd := d.toNat_lt
    show Go.Lib.decodeN (s.length + 4) a.toNat b.toNat c.toNat d.toNat = _
    have hp := pt.eq_def (a :: b :: c :: d :: s)
    dsimp only at hp
    rw [hp]
    clear hp
    simp only [u, cont, v2, v3, v4, okc, decide_eq_true_eq, apply_ite dpN]
    unfold Go.Lib.decodeN
    repeat' split
    all_goals first
      | (exfalso; omega)
      | exact fin (by omega)
      | rfl

theorem validD_d8 : ∀ (m : Nat) (l : List UInt8), l.length ≤ m → Go.Lib.validD l = (d8 m l).isSome := by
  intro m
  induction m with
  | zero => intro l hl; cases l with
    | nil => rfl
    | cons => simp at hl
  | succ m ih =>
    intro l hl
    cases l with
    | nil => rfl
    | cons a r =>
      rw [Go.Lib.validD_step _ (by simp), dec_pt a r]
      unfold d8
      cases hp : pt (a :: r) with
      | none => rfl
      | some q =>
        obtain ⟨c, k⟩ := q
        obtain ⟨k1, k2, k3, k4, k5⟩ := pt_ok hp
        have hq : ¬ ((dpN (some (c, k))).1 = 65533 ∧ (dpN (some (c, k))).2 = 1) := fun h => by
          have h1 : c.toNat = 65533 := h.1
          have h2 : k = 1 := h.2
          obtain ⟨q1, q2, _⟩ := pt_low hp (.inr h2)
          omega
        rw [if_neg hq]
        show Go.Lib.validD ((a :: r).drop k) = _
        simp only [List.length_cons] at k3 hl
        rw [ih ((a :: r).drop k) (by simp; omega)]
        dsimp only
        cases d8 m ((a :: r).drop k) <;> rfl

def textB (s : List UInt8) : Bool := decide (s.length ≤ 262144) && (d8 s.length s).isSome
theorem textOk_spec (n : Nat) (s : List UInt8) (hs : s.length < 4194304) : textOk n s = some (textB s, ()) := by
  unfold textOk textB
  rw [ile_eq]
  by_cases h : s.length ≤ 262144
  · rw [decide_eq_true (show len s ≤ 262144 by simp only [len]; omega), decide_eq_true h, cond_true]
    have : Nat.ble (List.length s) 9223372036854775807 = true := by rw [Nat.ble_eq]; omega
    rw [this, validD_d8 s.length s (Nat.le_refl _)]; rfl
  · rw [decide_eq_false (show ¬ len s ≤ 262144 by simp only [len]; omega), decide_eq_false h]; rfl
theorem textOkR_spec (n : Nat) (s : List UInt8) (hs : s.length < 4194304) (hn : s.length + 12 ≤ n) : textOkR n s = some (textB s, ()) := by
  unfold textOkR textB
  rw [textP_spec n s hs hn, ile_eq]
  have : decide (len s ≤ 262144) = decide (s.length ≤ 262144) := by
    rw [decide_eq_decide]; simp only [len]; omega
  rw [this]
  cases d8 s.length s <;> cases decide (s.length ≤ 262144) <;> rfl
end Go.Proofs.YtjfnjfneacfghaaGreatDoor

/- Which graphs may be: the program's way and the document's are one (of graphs that are not too great). -/
namespace Go.Proofs.YtjfnjfneacfghaaGreatDoor
open Go Go.Iv Go.Gv
set_option maxRecDepth 10000

abbrev NodeT := Int × (List UInt8 × (List UInt8 × (List Int × Bool)))
abbrev GraphT := List NodeT × List Int
def inB (N : Nat) (x : Int) : Bool := decide (0 ≤ x ∧ x < (N : Int))
theorem oor (N : Nat) (x : Int) : (bif Go.Iv.ilt x 0 then some Bool.true else some (Go.Iv.ile (N : Int) x)) = some (!(inB N x)) := by
  unfold inB
  by_cases h : x < 0
  · rw [ilt_t h, decide_eq_false (by omega)]; rfl
  · rw [ilt_f (by omega)]
    by_cases h2 : (N : Int) ≤ x
    · rw [ile_t h2, decide_eq_false (by omega)]; rfl
    · rw [ile_f (by omega), decide_eq_true (by omega)]; rfl

theorem are_loop (l : List Int) (g1 : List NodeT) (g2 : List Int) (hl : l.length < 1000000000) : ∀ (r : List Int) (i n : Nat), l.drop i = r → r.length + 1 ≤ n → i ≤ l.length →
    L40_2 n l (len l) (i : Int) g1 g2 = bif r.all (inB g1.length) then some (.inl ((), ((g1, (g2, ())), ()))) else some (.inr ((Bool.false, ()), ((g1, (g2, ())), ()))) := by
  intro r
  induction r with
  | nil =>
    intro i n hr hn hi
    obtain ⟨n, rfl⟩ : ∃ k, n = k + 1 := ⟨n - 1, by omega⟩
    have hlen : l.length ≤ i := by simpa using hr
    simp only [L40_2, len, ilt_f (show (l.length : Int) ≤ i by omega), cond_false]
    rfl
  | cons x r ih =>
    intro i n hr hn hi
    obtain ⟨n, rfl⟩ : ∃ k, n = k + 1 := ⟨n - 1, by omega⟩
    have hlen : l.length = i + (r.length + 1) := by
      have := congrArg List.length hr
      simp at this; omega
    have hx : l[i]? = some x := by have := at_drop hr 0; simpa using this
    have hr2 : l.drop (i + 1) = r := by rw [← List.drop_drop, hr]; rfl
    have w : IntKind.wrap .i64 ((i : Int) + 1) = ((i + 1 : Nat) : Int) := by rw [wrap_id] <;> omega
    have e0 : (Int.toNat (i : Int)) = i := rfl
    have o := oor g1.length x
    simp only [L40_2, len, ilt_t (show (i : Int) < l.length by omega), ile_t (show (0 : Int) ≤ i by omega), cond_true, e0, hx, Option.bind_some, w]
    rw [o]
    simp only [List.all_cons, Option.bind_some]
    cases inB g1.length x with
    | false => rfl
    | true =>
      simp only [Bool.not_true, cond_false, Bool.true_and]
      exact ih (i + 1) n hr2 (by simp at hn; omega) (by omega)
theorem are_spec (n : Nat) (g1 : List NodeT) (g2 l : List Int) (hl : l.length < 1000000000) (hn : l.length + 1 ≤ n) : are n (g1, g2) l = some (l.all (inB g1.length), ()) := by
  unfold are
  rw [show (0 : Int) = ((0 : Nat) : Int) from rfl, are_loop l g1 g2 hl l 0 (n + 1) rfl (by omega) (by omega)]
  cases l.all (inB g1.length) <;> rfl

theorem kids_loop (N : Nat) (k : Int) (a b : List UInt8) (l : List Int) (p : Bool) (hl : l.length < 1000000000) : ∀ (r : List Int) (i n : Nat), l.drop i = r → r.length + 1 ≤ n → i ≤ l.length →
    L10_4 n (N : Int) (i : Int) k a b l p = bif r.all (inB N) then some (.inl (((), ()), ((k, (a, (b, (l, (p, ()))))), ()))) else some (.inr ((Bool.false, ()), ((k, (a, (b, (l, (p, ()))))), ()))) := by
  intro r
  induction r with
  | nil =>
    intro i n hr hn hi
    obtain ⟨n, rfl⟩ : ∃ k, n = k + 1 := ⟨n - 1, by omega⟩
    have hlen : l.length ≤ i := by simpa using hr
    simp only [L10_4, len, ilt_f (show (l.length : Int) ≤ i by omega), cond_false]
    rfl
  | cons x r ih =>
    intro i n hr hn hi
    obtain ⟨n, rfl⟩ : ∃ k, n = k + 1 := ⟨n - 1, by omega⟩
    have hlen : l.length = i + (r.length + 1) := by
      have := congrArg List.length hr
      simp at this; omega
    have hx : l[i]? = some x := by have := at_drop hr 0; simpa using this
    have hr2 : l.drop (i + 1) = r := by rw [← List.drop_drop, hr]; rfl
    have w : IntKind.wrap .i64 ((i : Int) + 1) = ((i + 1 : Nat) : Int) := by rw [wrap_id] <;> omega
    have e0 : (Int.toNat (i : Int)) = i := rfl
    have o := oor N x
    simp only [L10_4, len, ilt_t (show (i : Int) < l.length by omega), ile_t (show (0 : Int) ≤ i by omega), cond_true, e0, hx, Option.bind_some, w]
    rw [o]
    simp only [List.all_cons, Option.bind_some]
    cases inB N x with
    | false => rfl
    | true =>
      simp only [Bool.not_true, cond_false, Bool.true_and]
      exact ih (i + 1) n hr2 (by simp at hn; omega) (by omega)

theorem roots_loop (N : Nat) (g1 : List NodeT) (l : List Int) (hl : l.length < 1000000000) : ∀ (r : List Int) (i n : Nat), l.drop i = r → r.length + 1 ≤ n → i ≤ l.length →
    L6_12 n (N : Int) (i : Int) g1 l = bif r.all (inB N) then some (.inl ((), ((g1, (l, ())), ()))) else some (.inr ((Bool.false, ()), ((g1, (l, ())), ()))) := by
  intro r
  induction r with
  | nil =>
    intro i n hr hn hi
    obtain ⟨n, rfl⟩ : ∃ k, n = k + 1 := ⟨n - 1, by omega⟩
    have hlen : l.length ≤ i := by simpa using hr
    simp only [L6_12, len, ilt_f (show (l.length : Int) ≤ i by omega), cond_false]
    rfl
  | cons x r ih =>
    intro i n hr hn hi
    obtain ⟨n, rfl⟩ : ∃ k, n = k + 1 := ⟨n - 1, by omega⟩
    have hlen : l.length = i + (r.length + 1) := by
      have := congrArg List.length hr
      simp at this; omega
    have hx : l[i]? = some x := by have := at_drop hr 0; simpa using this
    have hr2 : l.drop (i + 1) = r := by rw [← List.drop_drop, hr]; rfl
    have w : IntKind.wrap .i64 ((i : Int) + 1) = ((i + 1 : Nat) : Int) := by rw [wrap_id] <;> omega
    have e0 : (Int.toNat (i : Int)) = i := rfl
    have o := oor N x
    simp only [L6_12, len, ilt_t (show (i : Int) < l.length by omega), ile_t (show (0 : Int) ≤ i by omega), cond_true, e0, hx, Option.bind_some, w]
    rw [o]
    simp only [List.all_cons, Option.bind_some]
    cases inB N x with
    | false => rfl
    | true =>
      simp only [Bool.not_true, cond_false, Bool.true_and]
      exact ih (i + 1) n hr2 (by simp at hn; omega) (by omega)

/-! ### Nodes -/
def kindB (x : NodeT) : Bool :=
  bif x.1 == (1 : Int) then ((len x.2.2.2.1) == (0 : Int)) && textB x.2.2.1
  else bif x.1 == (2 : Int) then (x.2.2.1 == ([] : List UInt8)) && !x.2.2.2.2
  else bif x.1 == (3 : Int) then (x.2.2.1 == ([] : List UInt8)) && (!x.2.2.2.2 && ((Int.tmod (len x.2.2.2.1) (2 : Int)) == (0 : Int)))
  else Bool.false
def nodeO (x : NodeT) : Bool := !(Go.Iv.ilt (1000 : Int) (len x.2.1)) && (!(x.2.1 == ([(33 : UInt8)] : List UInt8)) && (validB x.2.1 && kindB x))
def NB (x : NodeT) : Prop := x.2.1.length ≤ 9000 ∧ x.2.2.1.length ≤ 9000 ∧ x.2.2.2.1.length ≤ 400

attribute [local irreducible] valid validR textOk textOkR validB textB

theorem node_spec (n : Nat) (x : NodeT) (hx : NB x) (hn : 10000 ≤ n) : node n x = some (nodeO x, ()) := by
  obtain ⟨h1, h2, h3⟩ := hx
  unfold node nodeO kindB
  rw [valid_spec n x.2.1 (by omega) (by omega), textOk_spec (n + 4) x.2.2.1 (by omega)]
  simp only [Option.bind_some]
  cases Go.Iv.ilt (1000 : Int) (len x.2.1) with
  | true => rfl
  | false =>
  cases (x.2.1 == ([(33 : UInt8)] : List UInt8)) with
  | true => rfl
  | false =>
  cases validB x.2.1 with
  | false => rfl
  | true =>
  simp only [cond_false, cond_true, Bool.not_false, Bool.not_true, Bool.true_and]
  cases (x.1 == (1 : Int)) with
  | true => cases (len x.2.2.2.1 == (0 : Int)) <;> rfl
  | false =>
  cases (x.1 == (2 : Int)) with
  | true => cases (x.2.2.1 == ([] : List UInt8)) <;> rfl
  | false =>
  cases (x.1 == (3 : Int)) with
  | true => cases (x.2.2.1 == ([] : List UInt8)) <;> cases x.2.2.2.2 <;> rfl
  | false => rfl

theorem nodeR_spec (n N : Nat) (x : NodeT) (hx : NB x) (hn : 10000 ≤ n) : nodeR n x (N : Int) = some (nodeO x && x.2.2.2.1.all (inB N), ()) := by
  obtain ⟨h1, h2, h3⟩ := hx
  unfold nodeR nodeO kindB
  rw [validR_spec n x.2.1 (by omega) (by omega), ← valid_eq, show (0 : Int) = ((0 : Nat) : Int) from rfl, kids_loop N x.1 x.2.1 x.2.2.1 x.2.2.2.1 x.2.2.2.2 (by omega) x.2.2.2.1 0 (n + 5) rfl (by omega) (by omega)]
  simp only [Option.bind_some]
  cases validB x.2.1 with
  | false => cases Go.Iv.ilt (1000 : Int) (len x.2.1) <;> cases (x.2.1 == ([(33 : UInt8)] : List UInt8)) <;> rfl
  | true =>
  cases (x.2.1 == ([(33 : UInt8)] : List UInt8)) with
  | true => cases Go.Iv.ilt (1000 : Int) (len x.2.1) <;> rfl
  | false =>
  cases Go.Iv.ilt (1000 : Int) (len x.2.1) with
  | true => rfl
  | false =>
  simp only [cond_false, cond_true, Bool.not_false, Bool.not_true, Bool.true_and]
  cases x.2.2.2.1.all (inB N) with
  | false => simp only [Bool.and_false]; rfl
  | true =>
  simp only [cond_true, Option.bind_some, Bool.and_true]
  rw [textOkR_spec n x.2.2.1 (by omega) (by omega)]
  cases (x.1 == (1 : Int)) with
  | true => cases (len x.2.2.2.1 == ((0 : Nat) : Int)) <;> rfl
  | false =>
  cases (x.1 == (2 : Int)) with
  | true => cases (x.2.2.1 == ([] : List UInt8)) <;> rfl
  | false =>
  cases (x.1 == (3 : Int)) with
  | true => cases (x.2.2.1 == ([] : List UInt8)) <;> cases x.2.2.2.2 <;> rfl
  | false => rfl

/-! ### Graphs -/
def ksum : List NodeT → Nat
  | [] => 0
  | x :: r => x.2.2.2.1.length + ksum r
def nodeG (N : Nat) (x : NodeT) : Bool := nodeO x && x.2.2.2.1.all (inB N)

attribute [local irreducible] node nodeR nodeO are

theorem nodes_loop (g1 : List NodeT) (g2 : List Int) (hl : g1.length < 1000) (hb : ∀ x ∈ g1, NB x) : ∀ (r : List NodeT) (i n s : Nat), g1.drop i = r → r.length + 10000 ≤ n → i ≤ g1.length → s + ksum r ≤ 20000 →
    L18_5 n (s : Int) g1 (len g1) (i : Int) g1 g2 = bif r.all (nodeG g1.length) then some (.inl ((), ((g1, (g2, ())), ()))) else some (.inr ((Bool.false, ()), ((g1, (g2, ())), ()))) := by
  intro r
  induction r with
  | nil =>
    intro i n s hr hn hi hs
    obtain ⟨n, rfl⟩ : ∃ k, n = k + 1 := ⟨n - 1, by omega⟩
    have hlen : g1.length ≤ i := by simpa using hr
    simp only [L18_5, len, ilt_f (show (g1.length : Int) ≤ i by omega), cond_false]
    rfl
  | cons x r ih =>
    intro i n s hr hn hi hs
    obtain ⟨n, rfl⟩ : ∃ k, n = k + 1 := ⟨n - 1, by omega⟩
    have hlen : g1.length = i + (r.length + 1) := by
      have := congrArg List.length hr
      simp at this; omega
    have hx : g1[i]? = some x := by have := at_drop hr 0; simpa using this
    have hxb : NB x := hb x (List.mem_of_getElem? hx)
    have hr2 : g1.drop (i + 1) = r := by rw [← List.drop_drop, hr]; rfl
    have w : IntKind.wrap .i64 ((i : Int) + 1) = ((i + 1 : Nat) : Int) := by rw [wrap_id] <;> omega
    simp only [ksum] at hs
    simp only [List.length_cons] at hn
    have w2 : IntKind.wrap .i64 ((s : Int) + (x.2.2.2.1.length : Int)) = ((s + x.2.2.2.1.length : Nat) : Int) := by rw [wrap_id] <;> omega
    have e0 : (Int.toNat (i : Int)) = i := rfl
    have hk := hxb.2.2
    simp only [L18_5, len, ilt_t (show (i : Int) < g1.length by omega), ile_t (show (0 : Int) ≤ i by omega), cond_true, e0, hx, Option.bind_some, w, w2, ilt_f (show ((s + x.2.2.2.1.length : Nat) : Int) ≤ 20000 by omega), cond_false]
    rw [node_spec (n + 1) _ hxb (by omega), are_spec (n + 6) g1 g2 x.2.2.2.1 (by omega) (by omega)]
    simp only [Option.bind_some, List.all_cons, nodeG]
    cases nodeO x with
    | false => rfl
    | true =>
      cases x.2.2.2.1.all (inB g1.length) with
      | false => rfl
      | true =>
        simp only [Bool.not_true, cond_false, Bool.true_and]
        exact ih (i + 1) n _ hr2 (by omega) (by omega) (by omega)

theorem nodesR_loop (g1 : List NodeT) (g2 : List Int) (hl : g1.length < 1000) (hb : ∀ x ∈ g1, NB x) : ∀ (r : List NodeT) (i n s : Nat), g1.drop i = r → r.length + 10000 ≤ n → i ≤ g1.length → s + ksum r ≤ 20000 →
    L6_6 n (g1.length : Int) (s : Int) (i : Int) g1 g2 = bif r.all (nodeG g1.length) then some (.inl (((), ((g1.length : Int), ())), ((g1, (g2, ())), ()))) else some (.inr ((Bool.false, ()), ((g1, (g2, ())), ()))) := by
  intro r
  induction r with
  | nil =>
    intro i n s hr hn hi hs
    obtain ⟨n, rfl⟩ : ∃ k, n = k + 1 := ⟨n - 1, by omega⟩
    have hlen : g1.length ≤ i := by simpa using hr
    simp only [L6_6, ilt_f (show (g1.length : Int) ≤ i by omega), cond_false]
    rfl
  | cons x r ih =>
    intro i n s hr hn hi hs
    obtain ⟨n, rfl⟩ : ∃ k, n = k + 1 := ⟨n - 1, by omega⟩
    have hlen : g1.length = i + (r.length + 1) := by
      have := congrArg List.length hr
      simp at this; omega
    have hx : g1[i]? = some x := by have := at_drop hr 0; simpa using this
    have hxb : NB x := hb x (List.mem_of_getElem? hx)
    have hr2 : g1.drop (i + 1) = r := by rw [← List.drop_drop, hr]; rfl
    have w : IntKind.wrap .i64 ((i : Int) + 1) = ((i + 1 : Nat) : Int) := by rw [wrap_id] <;> omega
    simp only [ksum] at hs
    simp only [List.length_cons] at hn
    have w2 : IntKind.wrap .i64 ((s : Int) + (x.2.2.2.1.length : Int)) = ((s + x.2.2.2.1.length : Nat) : Int) := by rw [wrap_id] <;> omega
    have e0 : (Int.toNat (i : Int)) = i := rfl
    simp only [L6_6, len, ilt_t (show (i : Int) < g1.length by omega), ile_t (show (0 : Int) ≤ i by omega), cond_true, e0, hx, Option.bind_some, w, w2, ilt_f (show ((s + x.2.2.2.1.length : Nat) : Int) ≤ 20000 by omega), cond_false]
    rw [nodeR_spec (n + 1) g1.length _ hxb (by omega)]
    simp only [Option.bind_some, List.all_cons, nodeG]
    cases (nodeO x && x.2.2.2.1.all (inB g1.length)) with
    | false => rfl
    | true =>
      simp only [Bool.not_true, cond_false, Bool.true_and]
      exact ih (i + 1) n _ hr2 (by omega) (by omega) (by omega)

def rightG (g : GraphT) : Bool := g.2.all (inB g.1.length) && g.1.all (nodeG g.1.length)
structure GB (g : GraphT) : Prop where
  n : g.1.length ≤ 60
  r : g.2.length ≤ 20
  b : ∀ x ∈ g.1, NB x
  k : ksum g.1 ≤ 400

theorem right_G (n : Nat) (g : GraphT) (hg : GB g) (hn : 20000 ≤ n) : right n g = some (rightG g, ()) := by
  have h1 := hg.n
  have h2 := hg.r
  have h3 := hg.k
  obtain ⟨g1, g2⟩ := g
  simp only at h1 h2 h3
  unfold right rightG
  simp only [len, ilt_f (show (g1.length : Int) ≤ 20000 by omega), ilt_f (show (g2.length : Int) ≤ 20000 by omega), cond_false]
  rw [are_spec (n + 5) g1 g2 g2 (by omega) (by omega)]
  simp only [Option.bind_some]
  have := nodes_loop g1 g2 (by omega) hg.b g1 0 n 0 rfl (by omega) (by omega) (by omega)
  simp only [len, Int.natCast_zero] at this
  rw [this]
  cases g2.all (inB g1.length) <;> cases g1.all (nodeG g1.length) <;> rfl

theorem rightR_G (n : Nat) (g : GraphT) (hg : GB g) (hn : 20000 ≤ n) : rightR n g = some (rightG g, ()) := by
  have h1 := hg.n
  have h2 := hg.r
  have h3 := hg.k
  obtain ⟨g1, g2⟩ := g
  simp only at h1 h2 h3
  unfold rightR rightG
  simp only [len, ilt_f (show (g1.length : Int) ≤ 20000 by omega), ilt_f (show (g2.length : Int) ≤ 20000 by omega), cond_false, Option.bind_some]
  have := nodesR_loop g1 g2 (by omega) hg.b g1 0 n 0 rfl (by omega) (by omega) (by omega)
  simp only [Int.natCast_zero] at this
  rw [this]
  have q := roots_loop g1.length g1 g2 (by omega) g2 0 (n + 6) rfl (by omega) (by omega)
  simp only [Int.natCast_zero] at q
  cases g1.all (nodeG g1.length) with
  | false => simp only [Bool.and_false]; rfl
  | true =>
    simp only [cond_true, Option.bind_some]
    rw [q]
    cases g2.all (inB g1.length) <;> rfl

/-! ### Too great -/
def wt (x : NodeT) : Nat := x.2.2.2.1.length + x.2.2.1.length / 20 + x.2.1.length / 20
def wsum : List NodeT → Nat
  | [] => 0
  | x :: r => wt x + wsum r
def SB (x : NodeT) : Prop := x.2.1.length ≤ 281474976710656 ∧ x.2.2.1.length ≤ 281474976710656 ∧ x.2.2.2.1.length ≤ 281474976710656
theorem wt_le {x : NodeT} (h : SB x) : wt x ≤ 900000000000000 := by
  obtain ⟨h1, h2, h3⟩ := h
  unfold wt; omega
theorem tdv (k : Nat) : Int.tdiv (k : Int) 20 = ((k / 20 : Nat) : Int) := by
  rw [Int.tdiv_eq_ediv_of_nonneg (by omega)]; omega

theorem big_loop (g1 : List NodeT) (g2 : List Int) (hb : ∀ x ∈ g1, SB x) (hlen : g1.length < 1000000000000000000) : ∀ (m : Nat) (r : List NodeT) (i n s : Nat), g1.drop i = r → i ≤ 100 → 100 - i = m → m + 2 ≤ n → i ≤ g1.length → s ≤ 900000000000000 * i →
    L5_3 n (s : Int) (i : Int) g1 g2 = some (((), (((s + wsum (r.take m) : Nat) : Int), ())), ((g1, (g2, ())), ())) := by
  intro m
  induction m with
  | zero =>
    intro r i n s hr hi hm hn hi2 hs
    obtain ⟨n, rfl⟩ : ∃ k, n = k + 1 := ⟨n - 1, by omega⟩
    have : i = 100 := by omega
    subst this
    simp only [L5_3, ilt_f (show (100 : Int) ≤ ((100 : Nat) : Int) by omega), List.take_zero, wsum, Nat.add_zero]
    cases Go.Iv.ilt ((100 : Nat) : Int) (len g1) <;> rfl
  | succ m ih =>
    intro r i n s hr hi hm hn hi2 hs
    obtain ⟨n, rfl⟩ : ∃ k, n = k + 1 := ⟨n - 1, by omega⟩
    cases r with
    | nil =>
      have hl : g1.length ≤ i := by simpa using hr
      simp only [L5_3, len, ilt_f (show (g1.length : Int) ≤ i by omega), cond_false, Option.bind_some, List.take_nil, wsum, Nat.add_zero]
    | cons x r =>
      have hlen : g1.length = i + (r.length + 1) := by
        have := congrArg List.length hr
        simp at this; omega
      have hx : g1[i]? = some x := by have := at_drop hr 0; simpa using this
      have hxb : SB x := hb x (List.mem_of_getElem? hx)
      have hr2 : g1.drop (i + 1) = r := by rw [← List.drop_drop, hr]; rfl
      have w : IntKind.wrap .i64 ((i : Int) + 1) = ((i + 1 : Nat) : Int) := by rw [wrap_id] <;> omega
      have e0 : (Int.toNat (i : Int)) = i := rfl
      have hw := wt_le hxb
      obtain ⟨q1, q2, q3⟩ := hxb
      have a1 : IntKind.wrap .i64 ((s : Int) + (x.2.2.2.1.length : Int)) = ((s + x.2.2.2.1.length : Nat) : Int) := by rw [wrap_id] <;> omega
      have a2 : IntKind.wrap .i64 ((x.2.2.1.length / 20 : Nat) : Int) = ((x.2.2.1.length / 20 : Nat) : Int) := by rw [wrap_id] <;> omega
      have a3 : IntKind.wrap .i64 ((x.2.1.length / 20 : Nat) : Int) = ((x.2.1.length / 20 : Nat) : Int) := by rw [wrap_id] <;> omega
      have a4 : IntKind.wrap .i64 (((s + x.2.2.2.1.length : Nat) : Int) + ((x.2.2.1.length / 20 : Nat) : Int)) = ((s + x.2.2.2.1.length + x.2.2.1.length / 20 : Nat) : Int) := by rw [wrap_id] <;> omega
      have a5 : IntKind.wrap .i64 (((s + x.2.2.2.1.length + x.2.2.1.length / 20 : Nat) : Int) + ((x.2.1.length / 20 : Nat) : Int)) = ((s + wt x : Nat) : Int) := by unfold wt; rw [wrap_id] <;> omega
      simp only [L5_3, len, ilt_t (show (i : Int) < g1.length by omega), ilt_t (show (i : Int) < 100 by omega), ile_t (show (0 : Int) ≤ i by omega), cond_true, e0, hx, Option.bind_some, w, tdv, a1, a2, a3, a4, a5]
      rw [ih r (i + 1) n (s + wt x) hr2 (by omega) (by omega) (by omega) (by omega) (by omega)]
      simp only [List.take_succ_cons, wsum, Nat.add_assoc]

def bigB (g : GraphT) : Bool := decide (60 < g.1.length ∨ 20 < g.2.length ∨ 400 < wsum (g.1.take 100))
theorem big_spec (n : Nat) (g : GraphT) (hb : ∀ x ∈ g.1, SB x) (h1 : g.1.length < 1000000000000000000) (hn : 200 ≤ n) : big n g = some (bigB g, ()) := by
  obtain ⟨g1, g2⟩ := g
  simp only at hb h1
  unfold big bigB
  have := big_loop g1 g2 hb h1 100 g1 0 (n + 1) 0 rfl (by omega) rfl (by omega) (by omega) (by omega)
  simp only [Int.natCast_zero, Nat.zero_add] at this
  rw [this]
  simp only [Option.bind_some, len]
  by_cases q1 : 60 < g1.length
  · rw [ilt_t (by omega), decide_eq_true (.inl q1)]; rfl
  rw [ilt_f (by omega)]
  by_cases q2 : 20 < g2.length
  · rw [ilt_t (by omega), decide_eq_true (.inr (.inl q2))]; rfl
  rw [ilt_f (by omega)]
  by_cases q3 : 400 < wsum (g1.take 100)
  · rw [ilt_t (by omega), decide_eq_true (.inr (.inr q3))]; rfl
  · rw [ilt_f (by omega), decide_eq_false (by omega)]; rfl

theorem wsum_mem : ∀ {l : List NodeT} {x : NodeT}, x ∈ l → wt x ≤ wsum l := by
  intro l
  induction l with
  | nil => intro x h; cases h
  | cons y r ih =>
    intro x h
    simp only [wsum]
    rcases List.mem_cons.1 h with e | h
    · rw [e]; omega
    · have := ih h; omega
theorem ksum_le : ∀ l : List NodeT, ksum l ≤ wsum l := by
  intro l
  induction l with
  | nil => exact Nat.le_refl _
  | cons y r ih => simp only [wsum, ksum, wt]; omega
theorem GB.of {g : GraphT} (h : bigB g = false) : GB g := by
  have h := of_decide_eq_false h
  have h1 : g.1.length ≤ 60 := by omega
  have ht : g.1.take 100 = g.1 := List.take_of_length_le (by omega)
  rw [ht] at h
  refine ⟨h1, by omega, fun x hx => ?_, ?_⟩
  · have := wsum_mem hx
    unfold wt at this
    exact ⟨by omega, by omega, by omega⟩
  · have := ksum_le g.1; omega
end Go.Proofs.YtjfnjfneacfghaaGreatDoor

/- Plain functions for the program's. -/
namespace Go.Proofs.YtjfnjfneacfghaaGreatDoor
open Go Go.Iv Go.Gv
set_option maxRecDepth 100000
set_option linter.unusedVariables false
noncomputable def L11_5_Xexit0 : Tm := ⟨[(6, .one (.fix (Go.Gv.TV.ptr 70 0)))], [(64, .cells 25 [.lst (.cons (.int .i64) (.cons .str (.cons .str (.cons (.slc (.int .i64)) .bool)))), .lst (.int .i64)] true), (65, .cells 27 [.int .i64, .int .i64, .int .i64, .bool, .bool] true), (66, .cells 25 [.lst (.cons (.int .i64) (.cons .str (.cons .str (.cons (.slc (.int .i64)) .bool)))), .lst (.int .i64)] true), (67, .cells 27 [.int .i64, .int .i64, .int .i64, .bool, .bool] true), (68, .cells 25 [.lst (.cons (.int .i64) (.cons .str (.cons .str (.cons (.slc (.int .i64)) .bool)))), .lst (.int .i64)] true), (69, .cells 27 [.int .i64, .int .i64, .int .i64, .bool, .bool] true), (70, .cells 59 [.lst (.cons (.int .i64) (.cons .str (.cons .str (.cons (.slc (.int .i64)) .bool)))), .lst (.int .i64), .int .i64, .int .i64, .int .i64, .bool, .bool, .fix (Go.Gv.TV.raw (Go.Value.map (Option.none))), .fix (Go.Gv.TV.raw (Go.Value.map (Option.none))), .int .i64, .fix (Go.Gv.TV.raw (Go.Value.slice (Option.none) 0 0))] true)], 71, 71, 1007⟩
noncomputable def L11_5_T : Tm := ⟨[(3, .one (.fix (Go.Gv.TV.ptr 69 0))), (6, .one (.fix (Go.Gv.TV.ptr 70 0))), (18, .one (.lst (.int .i64))), (19, .one (.int .i64)), (20, .one (.int .i64))], [(64, .cells 25 [.lst (.cons (.int .i64) (.cons .str (.cons .str (.cons (.slc (.int .i64)) .bool)))), .lst (.int .i64)] true), (65, .cells 27 [.int .i64, .int .i64, .int .i64, .bool, .bool] true), (66, .cells 25 [.lst (.cons (.int .i64) (.cons .str (.cons .str (.cons (.slc (.int .i64)) .bool)))), .lst (.int .i64)] true), (67, .cells 27 [.int .i64, .int .i64, .int .i64, .bool, .bool] true), (68, .cells 25 [.lst (.cons (.int .i64) (.cons .str (.cons .str (.cons (.slc (.int .i64)) .bool)))), .lst (.int .i64)] true), (69, .cells 27 [.int .i64, .int .i64, .int .i64, .bool, .bool] true), (70, .cells 59 [.lst (.cons (.int .i64) (.cons .str (.cons .str (.cons (.slc (.int .i64)) .bool)))), .lst (.int .i64), .int .i64, .int .i64, .int .i64, .bool, .bool, .fix (Go.Gv.TV.raw (Go.Value.map (Option.none))), .fix (Go.Gv.TV.raw (Go.Value.map (Option.none))), .int .i64, .fix (Go.Gv.TV.raw (Go.Value.slice (Option.none) 0 0))] true)], 71, 71, 1007⟩
noncomputable def L11_5 : Nat → (List Int) → Int → Int → (List (Int × (List UInt8 × (List UInt8 × (List Int × Bool))))) → (List Int) → Int → Int → Int → Bool → Bool → (List (Int × (List UInt8 × (List UInt8 × (List Int × Bool))))) → (List Int) → Int → Int → Int → Bool → Bool → (List (Int × (List UInt8 × (List UInt8 × (List Int × Bool))))) → (List Int) → Int → Int → Int → Bool → Bool → (List (Int × (List UInt8 × (List UInt8 × (List Int × Bool))))) → (List Int) → Int → Int → Int → Bool → Bool → Int → Option ((Unit × Unit) × (((List (Int × (List UInt8 × (List UInt8 × (List Int × Bool))))) × ((List Int) × Unit)) × ((Int × (Int × (Int × (Bool × (Bool × Unit))))) × (((List (Int × (List UInt8 × (List UInt8 × (List Int × Bool))))) × ((List Int) × Unit)) × ((Int × (Int × (Int × (Bool × (Bool × Unit))))) × (((List (Int × (List UInt8 × (List UInt8 × (List Int × Bool))))) × ((List Int) × Unit)) × ((Int × (Int × (Int × (Bool × (Bool × Unit))))) × (((List (Int × (List UInt8 × (List UInt8 × (List Int × Bool))))) × ((List Int) × (Int × (Int × (Int × (Bool × (Bool × (Unit × (Unit × (Int × (Unit × Unit))))))))))) × Unit))))))))
  | 0, _, _, _, _, _, _, _, _, _, _, _, _, _, _, _, _, _, _, _, _, _, _, _, _, _, _, _, _, _, _, _, _ => none
  | _ + 1, t18, t19, t20, c64_0, c64_1, c65_0, c65_1, c65_2, c65_3, c65_4, c66_0, c66_1, c67_0, c67_1, c67_2, c67_3, c67_4, c68_0, c68_1, c69_0, c69_1, c69_2, c69_3, c69_4, c70_0, c70_1, c70_2, c70_3, c70_4, c70_5, c70_6, c70_9 =>
    bif (Go.Iv.ilt t20 t19) then
      bif (Go.Iv.ile (0 : Int) t20) then
      Option.bind (t18[(Int.toNat t20)]?) fun _ =>
      bif c69_4 then
        none
      else
      none
      else none
    else
    some (((), ()), ((c64_0, (c64_1, ())), ((c65_0, (c65_1, (c65_2, (c65_3, (c65_4, ()))))), ((c66_0, (c66_1, ())), ((c67_0, (c67_1, (c67_2, (c67_3, (c67_4, ()))))), ((c68_0, (c68_1, ())), ((c69_0, (c69_1, (c69_2, (c69_3, (c69_4, ()))))), ((c70_0, (c70_1, (c70_2, (c70_3, (c70_4, (c70_5, (c70_6, ((), ((), (c70_9, ((), ()))))))))))), ()))))))))
noncomputable def L11_5_it : LoopIt := ⟨11, 5, none, L11_5_T, [(.exit 0, L11_5_Xexit0)], 0, fun n x => L11_5 n x.1.2.2.1 x.1.2.2.2.1 x.1.2.2.2.2.1 x.2.1.1 x.2.1.2.1 x.2.2.1.1 x.2.2.1.2.1 x.2.2.1.2.2.1 x.2.2.1.2.2.2.1 x.2.2.1.2.2.2.2.1 x.2.2.2.1.1 x.2.2.2.1.2.1 x.2.2.2.2.1.1 x.2.2.2.2.1.2.1 x.2.2.2.2.1.2.2.1 x.2.2.2.2.1.2.2.2.1 x.2.2.2.2.1.2.2.2.2.1 x.2.2.2.2.2.1.1 x.2.2.2.2.2.1.2.1 x.2.2.2.2.2.2.1.1 x.2.2.2.2.2.2.1.2.1 x.2.2.2.2.2.2.1.2.2.1 x.2.2.2.2.2.2.1.2.2.2.1 x.2.2.2.2.2.2.1.2.2.2.2.1 x.2.2.2.2.2.2.2.1.1 x.2.2.2.2.2.2.2.1.2.1 x.2.2.2.2.2.2.2.1.2.2.1 x.2.2.2.2.2.2.2.1.2.2.2.1 x.2.2.2.2.2.2.2.1.2.2.2.2.1 x.2.2.2.2.2.2.2.1.2.2.2.2.2.1 x.2.2.2.2.2.2.2.1.2.2.2.2.2.2.1 x.2.2.2.2.2.2.2.1.2.2.2.2.2.2.2.2.2.1⟩
theorem L11_5_Xexit0_ok : L11_5_Xexit0.ok Go.Proofs.Tryz.prog hint := by
  intro p hp
  simp only [L11_5_Xexit0, List.mem_cons, List.not_mem_nil, or_false] at hp
  rcases hp with rfl | rfl | rfl | rfl | rfl | rfl | rfl
  · trivial
  · trivial
  · trivial
  · trivial
  · trivial
  · trivial
  · trivial
theorem L11_5_T_ok : L11_5_T.ok Go.Proofs.Tryz.prog hint := by
  intro p hp
  simp only [L11_5_T, List.mem_cons, List.not_mem_nil, or_false] at hp
  rcases hp with rfl | rfl | rfl | rfl | rfl | rfl | rfl
  · trivial
  · trivial
  · trivial
  · trivial
  · trivial
  · trivial
  · trivial
theorem L11_5_ok : ∀ n, LoopOK Go.Proofs.Tryz.prog hint shT L11_5_it n :=
  LoopOK.of (hk := fun β => (Known.mk [] []).hk β) (sh := shT) (OneLoop.of (by kernel_rfl)) L11_5_T_ok ⟨⟨L11_5_Xexit0_ok, Nat.le_refl _, Nat.le_refl _⟩, trivial⟩ (fun m => KnownOK.hook KnownOK.nil m)
    (fun _ => by kernel_rfl) (fun m x => by kernel_rfl)

noncomputable def emitWrong (n : Nat) (g : (List (Int × (List UInt8 × (List UInt8 × (List Int × Bool)))) × List Int)) (o : (Int × (Int × (Int × (Bool × Bool))))) : Option (Bool × Unit) :=
  Option.bind (big (n + 8) (g.1, g.2)) fun y0 =>
  bif y0.1 then
    some (Bool.true, ())
  else
  Option.bind (rightR (n + 3) (g.1, g.2)) fun y1 =>
  bif y1.1 then
    some (Bool.true, ())
  else
  Option.bind (right n (g.1, g.2)) fun y2 =>
  bif (!y2.1) then
    some (Bool.true, ())
  else
  Option.bind (L11_5 (n + 8) g.2 (len g.2) (0 : Int) g.1 g.2 o.1 o.2.1 o.2.2.1 o.2.2.2.1 o.2.2.2.2 g.1 g.2 o.1 o.2.1 o.2.2.1 o.2.2.2.1 o.2.2.2.2 g.1 g.2 o.1 o.2.1 o.2.2.1 o.2.2.2.1 o.2.2.2.2 g.1 g.2 o.1 o.2.1 o.2.2.1 o.2.2.2.1 o.2.2.2.2 (0 : Int)) fun _ =>
  none
noncomputable def emitWrong_it : FnIt := ⟨3, [(true, (.cons (.slc (.cons (.int .i64) (.cons .str (.cons .str (.cons (.slc (.int .i64)) .bool))))) (.slc (.int .i64)))), (true, (.cons (.int .i64) (.cons (.int .i64) (.cons (.int .i64) (.cons .bool .bool)))))], [(false, .bool)], 10, fun n x => emitWrong n x.1 x.2.1⟩
theorem emitWrong_ok (n : Nat) : FnOK Go.Proofs.Tryz.prog hint shT emitWrong_it n :=
  FnOK.of (hk := fun β => (Known.mk [right_it, rightR_it, big_it] [L11_5_it]).hk β) (sh := shT) (fun m _ => KnownOK.hook ((((KnownOK.nil.fn big_ok).fn rightR_ok).fn right_ok).loop L11_5_ok L11_5_T_ok) m) (fun x => by kernel_rfl)


end Go.Proofs.YtjfnjfneacfghaaGreatDoor

/- Of a graph that is not right nothing is written. -/
namespace Go.Proofs.YtjfnjfneacfghaaGreatDoor
open Go Go.Iv Go.Gv
set_option maxRecDepth 10000

theorem emitWrong_spec (n : Nat) (hn : 30000 ≤ n) (g : GraphT) (o : Int × (Int × (Int × (Bool × Bool)))) (w : Sh.wf (.cons (.slc (.cons (.int .i64) (.cons .str (.cons .str (.cons (.slc (.int .i64)) .bool))))) (.slc (.int .i64))) g) (_ : Sh.wf (.cons (.int .i64) (.cons (.int .i64) (.cons (.int .i64) (.cons .bool .bool)))) o) :
    emitWrong n g o = some (true, ()) := by
  have hr : reachBytes ≤ 281474976710656 := by decide
  have w1 := w.1.1
  have hs : ∀ x ∈ g.1, SB x := fun x hx => by
    have q := w.1.2 x hx
    exact ⟨Nat.le_trans q.2.1 hr, Nat.le_trans q.2.2.1 hr, Nat.le_trans q.2.2.2.1.1 hr⟩
  unfold emitWrong
  have ee : (g.1, g.2) = g := rfl
  rw [ee, big_spec (n + 8) g hs (by omega) (by omega)]
  simp only [Option.bind_some]
  cases hb : bigB g with
  | true => rfl
  | false =>
    have hg := GB.of hb
    rw [rightR_G (n + 3) g hg (by omega), right_G n g hg (by omega)]
    simp only [Option.bind_some, cond_false]
    cases rightG g <;> rfl
end Go.Proofs.YtjfnjfneacfghaaGreatDoor

/- Functions whose answers are told: by the kit's contracts. -/
namespace Go.Proofs.YtjfnjfneacfghaaGreatDoor
open Go Go.Iv Go.Gv Go.Shelf Go.Proofs
def lays196_ren : Go.Shelf.Ren := ⟨fun | 196 => 101 | 259 => 143 | n => n, fun | 9 => 9 | 4 => 4 | 3 => 3 | 5 => 5 | 12 => 12 | 119 => 203 | 0 => 0 | 46 => 113 | 139 => 206 | 138 => 205 | 53 => 221 | n => n, fun | 3 => 0 | 4 => 1 | n => n⟩

theorem lays196 : Go.Proofs.Lays.n196 Tryz.prog lays196_ren := {
  mixed := by kernel_rfl
  f196 := Tryz.func101.trans (congrArg some (by kernel_rfl))
  f259 := Tryz.func143.trans (congrArg some (by kernel_rfl))
  t0 := Tryz.underlying0
  a0 := Tryz.isAgg0
  z0 := Tryz.sizeOf0
  v0 := Tryz.zeroValue0
  t3 := Tryz.underlying3
  a3 := Tryz.isAgg3
  z3 := Tryz.sizeOf3
  v3 := Tryz.zeroValue3
  t4 := Tryz.underlying4
  a4 := Tryz.isAgg4
  z4 := Tryz.sizeOf4
  v4 := Tryz.zeroValue4
  t5 := Tryz.underlying5
  a5 := Tryz.isAgg5
  z5 := Tryz.sizeOf5
  v5 := Tryz.zeroValue5
  t9 := Tryz.underlying9
  a9 := Tryz.isAgg9
  z9 := Tryz.sizeOf9
  v9 := Tryz.zeroValue9
  t12 := Tryz.underlying12
  a12 := Tryz.isAgg12
  z12 := Tryz.sizeOf12
  v12 := Tryz.zeroValue12
  t46 := Tryz.underlying113
  a46 := Tryz.isAgg113
  z46 := Tryz.sizeOf113
  v46 := Tryz.zeroValue113
  t53 := Tryz.underlying221
  a53 := Tryz.isAgg221
  z53 := Tryz.sizeOf221
  v53 := Tryz.zeroValue221
  t119 := Tryz.underlying203
  a119 := Tryz.isAgg203
  z119 := Tryz.sizeOf203
  t138 := Tryz.underlying205
  a138 := Tryz.isAgg205
  z138 := Tryz.sizeOf205
  v138 := Tryz.zeroValue205
  t139 := Tryz.underlying206
  a139 := Tryz.isAgg206
  z139 := Tryz.sizeOf206
  v139 := Tryz.zeroValue206
  g3 := by kernel_rfl
  g4 := by kernel_rfl

}

theorem sp4 : Spec1 Tryz.prog 0 4 0 := spec_true alive_ok
theorem sp101 : Spec1 Tryz.prog 3 101 1 := spec_valid (g1 := 0) (g2 := 1) (by decide) ⟨_, _, Tryz.func101, rfl⟩ fun s w h1 h2 => Go.Proofs.Any.utf8_ValidString lays196 s w h1 h2
theorem specs_ok : SpecOK Tryz.prog (gspec hint) := gspec_ok (show SpecsOK Tryz.prog specL from ⟨sp4, sp101, trivial⟩)
end Go.Proofs.YtjfnjfneacfghaaGreatDoor
