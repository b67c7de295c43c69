/- GenLots: what is computed is true. -/
import Derived.Test.YtoiiimbhfdnomaaDoorFa
import Derived.Laws.BitsLemmas
namespace Go.Proofs.YtoiiimbhfdnomaaDoor
open Go Go.Iv Go.Gv

theorem L3_8_spec (l : List Int) : ∀ (k n : Nat) (t9 c c' : Int), 0 ≤ t9 → t9 + k = l.length → l.length ≤ 200 → k < n → ∃ y, L3_8 n l t9 c c' c = some (.inl y) := by
  intro k
  induction k with
  | zero =>
    intro n t9 c c' h0 hk hl hn
    cases n with
    | zero => omega
    | succ n =>
      have e1 : Go.Iv.ilt t9 (((List.length l) : Nat) : Int) = false := by rw [Go.Iv.ilt_eq]; exact decide_eq_false (by omega)
      simp only [L3_8, e1, cond_false]
      exact ⟨_, rfl⟩
  | succ k ih =>
    intro n t9 c c' h0 hk hl hn
    cases n with
    | zero => omega
    | succ n =>
      have e1 : Go.Iv.ilt t9 (((List.length l) : Nat) : Int) = true := by rw [Go.Iv.ilt_eq]; exact decide_eq_true (by omega)
      have e2 : Go.Iv.ile (0 : Int) t9 = true := by rw [Go.Iv.ile_eq]; exact decide_eq_true h0
      have hlt : t9.toNat < l.length := by omega
      have e3 : l[t9.toNat]? = some l[t9.toNat] := List.getElem?_eq_getElem hlt
      have hw : Go.IntKind.wrap .i64 (t9 + 1) = t9 + 1 := by
        rw [Go.IntKind.wrap_i64]; omega
      generalize l[t9.toNat] = x at e3
      have nz : Go.Iv.ilt x 1 = false → (x != 0) = true := by
        intro h; rw [Go.Iv.ilt_eq] at h; have := of_decide_eq_false h; simp; omega
      have nz9 : Go.Iv.ilt t9 1 = false → (t9 != 0) = true := by
        intro h; rw [Go.Iv.ilt_eq] at h; have := of_decide_eq_false h; simp; omega
      have step : ∀ d d', ∃ y, L3_8 n l (Go.IntKind.wrap .i64 (t9 + 1)) d d' d = some (.inl y) := fun d d' => by
        rw [hw]; exact ih n (t9 + 1) d d' (by omega) (by omega) hl (by omega)
      simp only [L3_8, e1, e2, e3, cond_true, Option.bind_some, bne_self_eq_false, cond_false]
      cases h1 : Go.Iv.ilt t9 1 <;> cases h2 : Go.Iv.ilt x 1 <;> simp only [cond_true, cond_false] <;> (try simp only [nz h2, cond_true]) <;> (try simp only [nz9 h1, cond_true]) <;> exact step _ _

theorem lots_spec (l : List Int) (seed : Int) : lots 300 seed l = some (true, ()) := by
  simp only [lots, alive, Option.bind_some, Bool.not_true, cond_false]
  cases h : Go.Iv.ilt (200 : Int) (((List.length l) : Nat) : Int) with
  | true => rfl
  | false =>
    rw [Go.Iv.ilt_eq] at h
    have h := of_decide_eq_false h
    obtain ⟨y, hy⟩ := L3_8_spec l l.length (300 + 6) 0 _ _ (Int.le_refl _) (by omega) (by omega) (by omega)
    simp only [cond_false]
    rw [hy]
    rfl
end Go.Proofs.YtoiiimbhfdnomaaDoor
