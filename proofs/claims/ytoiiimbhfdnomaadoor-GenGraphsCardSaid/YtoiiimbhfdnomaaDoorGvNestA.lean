/- Lists whose elements hold lists: their cells. -/
import Derived.Test.YtoiiimbhfdnomaaDoorGvNestS
set_option linter.unusedSimpArgs false
set_option linter.unusedVariables false
namespace Go.Gv
open Go Go.Iv
section
variable {P : Program} {hint : Hint} {sh : ShT}
variable {Γ Γ' : Gam} {Pu Pu' : Nat → Prop} {H H' : GH} {I I' : IH}
theorem Sh.same_refl : ∀ s : Sh, ∃ h : s = s, Sh.same s s = some ⟨h⟩ := by
  intro s
  induction s with
  | int k => exact ⟨rfl, by simp [Sh.same]⟩
  | byte => exact ⟨rfl, rfl⟩
  | bool => exact ⟨rfl, rfl⟩
  | str => exact ⟨rfl, rfl⟩
  | cons a b iha ihb =>
    obtain ⟨h1, e1⟩ := iha
    obtain ⟨h2, e2⟩ := ihb
    exact ⟨rfl, by simp [Sh.same, e1, e2]⟩
  | slc e ih => obtain ⟨h1, e1⟩ := ih; exact ⟨rfl, by simp [Sh.same, e1]⟩
theorem tvs_len : ∀ {e : Sh} (x : e.ty), (e.tvs x).length = e.sz := by
  intro e
  induction e with
  | cons a b iha ihb => intro x; simp only [Sh.tvs, List.length_append, Sh.sz, iha x.1, ihb x.2]
  | _ => intro x; rfl
def flatT : TV → Bool
  | .int _ _ | .byte _ | .bool _ | .str _ | .undef => true
  | _ => false
theorem GRs.flat : ∀ {l : List TV} {vs : List Value}, l.all flatT = true → GRs Γ Pu I l vs → GRs Γ' Pu' I' l vs := by
  intro l
  induction l with
  | nil => intro vs _ h; cases h; exact .nil
  | cons t r ih =>
    intro vs hn h
    simp only [List.all_cons, Bool.and_eq_true] at hn
    cases h with | cons a b =>
    refine .cons ?_ (ih hn.2 b)
    cases t with
    | int k n => cases a; exact .int k n
    | byte c => cases a; exact .byte c
    | bool c => cases a; exact .bool c
    | str c => cases a; exact .str c
    | undef => exact .undef _
    | _ => cases hn.1
theorem flatS_tvs : ∀ {e : Sh} (_ : flatS e = true) (x : e.ty), (e.tvs x).all flatT = true := by
  intro e
  induction e with
  | cons a b iha ihb =>
    intro h x
    simp only [flatS, Bool.and_eq_true] at h
    simp only [Sh.tvs, List.all_append, Bool.and_eq_true]
    exact ⟨iha h.1 x.1, ihb h.2 x.2⟩
  | slc e => intro h; cases h
  | _ => intro _ x; rfl
theorem okN_at : ∀ {e : Sh} {no : Nat} {ne : Sh}, okN e no ne = true → no < e.sz ∧ ∀ x : e.ty, (e.tvs x)[no]? = some (.lst ne (nestGet e no ne x) none false) ∧ ((e.tvs x).set no .undef).all flatT = true ∧ ∀ ys, e.tvs (nestSet e no ne x ys) = (e.tvs x).set no (.lst ne ys none false) := by
  intro e
  induction e with
  | cons a b iha ihb =>
    intro no ne h
    simp only [okN] at h
    cases hb : Nat.blt no a.sz with
    | true =>
      rw [hb] at h
      simp only [cond_true, Bool.and_eq_true] at h
      have hlt : no < a.sz := Nat.le_of_ble_eq_true hb
      obtain ⟨h1, h2⟩ := iha h.1
      refine ⟨by simp only [Sh.sz]; omega, fun x => ?_⟩
      obtain ⟨g1, g2, g3⟩ := h2 x.1
      have hl := tvs_len x.1
      refine ⟨?_, ?_, fun ys => ?_⟩
      · simp only [Sh.tvs, nestGet, hb]
        rw [List.getElem?_append_left (by omega)]; exact g1
      · simp only [Sh.tvs]
        rw [List.set_append_left _ _ (by omega), List.all_append, g2, flatS_tvs h.2 x.2]; rfl
      · simp only [Sh.tvs, nestSet, hb, g3]
        rw [List.set_append_left _ _ (by omega)]
    | false =>
      rw [hb] at h
      simp only [cond_false, Bool.and_eq_true] at h
      have hge : a.sz ≤ no := by
        rcases Nat.lt_or_ge no a.sz with h1 | h1
        · rw [show Nat.blt no a.sz = true from Nat.ble_eq_true_of_le h1] at hb; cases hb
        · exact h1
      obtain ⟨h1, h2⟩ := ihb h.2
      refine ⟨by simp only [Sh.sz]; omega, fun x => ?_⟩
      obtain ⟨g1, g2, g3⟩ := h2 x.2
      have hl := tvs_len x.1
      refine ⟨?_, ?_, fun ys => ?_⟩
      · simp only [Sh.tvs, nestGet, hb]
        rw [List.getElem?_append_right (by omega), hl]; exact g1
      · simp only [Sh.tvs]
        rw [List.set_append_right _ _ (by omega), List.all_append, hl, g2, flatS_tvs h.1 x.1]; rfl
      · simp only [Sh.tvs, nestSet, hb, g3]
        rw [List.set_append_right _ _ (by omega), hl]
  | slc e _ =>
    intro no ne h
    cases no with
    | succ n => cases h
    | zero =>
      simp only [okN] at h
      cases hs : Sh.same e ne with
      | none => rw [hs] at h; cases h
      | some q =>
        obtain ⟨q⟩ := q
        subst q
        obtain ⟨_, e1⟩ := Sh.same_refl e
        refine ⟨by simp [Sh.sz], fun x => ⟨?_, rfl, fun ys => ?_⟩⟩
        · simp only [Sh.tvs, nestGet, e1]; rfl
        · simp only [Sh.tvs, nestSet, e1]; rfl
  | _ => intro no ne h; cases no <;> cases h
theorem nestGet_set {e : Sh} {no : Nat} {ne : Sh} (h : okN e no ne = true) (x : e.ty) (ys : List ne.ty) : nestGet e no ne (nestSet e no ne x ys) = ys := by
  obtain ⟨h1, h2⟩ := okN_at h
  have a1 := (h2 (nestSet e no ne x ys)).1
  rw [(h2 x).2.2 ys, List.getElem?_set_self (by rw [tvs_len]; exact h1)] at a1
  have a2 := Option.some.inj a1
  injection a2 with _ a3
  exact a3.symm
theorem plain_set {e : Sh} {no : Nat} {ne : Sh} (h : okN e no ne = true) (x : e.ty) (ys : List ne.ty) : (e.tvs (nestSet e no ne x ys)).set no .undef = (e.tvs x).set no .undef := by
  rw [(okN_at h).2 x |>.2.2 ys, List.set_set]
end
end Go.Gv
