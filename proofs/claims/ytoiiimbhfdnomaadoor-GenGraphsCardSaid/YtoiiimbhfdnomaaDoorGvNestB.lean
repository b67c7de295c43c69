/- Lists whose elements hold lists: the operations. -/
import Derived.Test.YtoiiimbhfdnomaaDoorGvMap
import Derived.Test.YtoiiimbhfdnomaaDoorGvNestA
set_option linter.unusedSimpArgs false
set_option linter.unusedVariables false
namespace Go.Gv
open Go Go.Iv
section
variable {β : Type} {P : Program} {hint : Hint} {sh : ShT} {Γ Γ1 Γ' : Gam} {Pu Pu1 : Nat → Prop} {H H1 : GH} {I I1 I' : IH} {K : TV → GH → Option β} {r : β}
theorem ArrR.isNil {l : Loc} {et : TypeId} {e : Sh} {xs : List e.ty} {w fz : Bool} {v : Value} (h : ArrR Pu I l et e xs w fz .ex) (hv : SlV l 0 l.len v) (hx : xs = []) : l.pos = none := by
  obtain ⟨_, _, _, h4 | ⟨b, o, vs, f, ex, sd, hp, he, _⟩⟩ := h
  · exact h4.1
  · exact absurd hx (he rfl)
theorem NestR.lay {l : Loc} {et : TypeId} {e : Sh} {no : Nat} {net : TypeId} {ne : Sh} {xs : List e.ty} {em : Em} {ho : Option (Nat × Nat × e.ty)} (h : NestR Γ Pu I l et e no net ne xs em ho) {i : Nat} {x : e.ty} (hx : xs[i]? = some x) (hho : ∀ j n y, ho = some (j, n, y) → j = i)
    {ys : List ne.ty} {ln : Loc} {v : Value} (hn : ArrR Pu I ln net ne ys true false .ex) (hv : SlV ln 0 ln.len v) {b0 o : Nat} (hp : l.pos = some (b0, o)) {vs : List Value} {f : Nat} {ex : Bool} (hg : I.get b0 = some (.cells vs et f ex false))
    (hI0 : I'.get b0 = some (.cells (vs.set (o + i * e.sz + no) v) et f ex false)) (hI : ∀ b, b ≠ b0 → I'.get b = I.get b) (hk : Keep Γ Pu I Γ' Pu I')
    (hb : ∀ b, blkOf v = some b → b ≠ b0 ∧ ∀ j, j ≠ i → ¬ NB I l e.sz no (ho.map (·.1)) b j) :
    NestR Γ' Pu I' l et e no net ne (xs.set i (nestSet e no ne x ys)) em none ∧ ∀ b j, NB I' l e.sz no none b j → (j = i ∧ blkOf v = some b) ∨ (j ≠ i ∧ NB I l e.sz no (ho.map (·.1)) b j) := by
  obtain ⟨h1, h2, h3, h4, h5 | ⟨b1, o1, vs1, f1, ex1, hp1, he, hg1, ht, hl, hro, hf, hE, hy, hh, hd, hself⟩⟩ := h
  · rw [h5.1] at hp; cases hp
  cases hp.symm.trans hp1
  cases hg.symm.trans hg1
  obtain ⟨hno, hok⟩ := okN_at h4
  have hi : i < xs.length := (List.getElem?_eq_some_iff.1 hx).1
  have cell : ∀ j, j < xs.length → o + j * e.sz + no < vs.length := fun j hj => by
    have : (j + 1) * e.sz ≤ xs.length * e.sz := Nat.mul_le_mul_right _ hj
    rw [Nat.add_mul, Nat.one_mul] at this; omega
  have cne : ∀ j, j ≠ i → o + i * e.sz + no ≠ o + j * e.sz + no := fun j hj hc => by
    have : i * e.sz = j * e.sz := by omega
    exact hj (Nat.eq_of_mul_eq_mul_right h3 this).symm
  have nb : ∀ b j, NB I' l e.sz no none b j → (j = i ∧ blkOf v = some b) ∨ (j ≠ i ∧ NB I l e.sz no (ho.map (·.1)) b j) := by
    rintro b j ⟨_, n2, b2, o2, vs2, et2, f2, ex2, sd2, hp2, hg2, hv2⟩
    cases hp.symm.trans hp2
    rw [hI0] at hg2
    cases hg2
    have hj : j < xs.length := by rw [← h1]; exact n2
    by_cases hji : j = i
    · subst hji
      rw [List.getElem?_set_self (cell j hj)] at hv2
      exact .inl ⟨rfl, hv2⟩
    · rw [List.getElem?_set_ne (cne j hji)] at hv2
      refine .inr ⟨hji, ?_, n2, b0, o, vs, et, f, ex, false, hp, hg, hv2⟩
      intro hc
      cases ho with
      | none => cases hc
      | some q =>
        obtain ⟨j2, n, y⟩ := q
        simp only [Option.map_some, Option.some.injEq] at hc
        exact hji (hc ▸ hho j2 n y rfl)
  refine ⟨⟨by rw [List.length_set]; exact h1, h2, h3, h4, .inr ⟨b0, o, _, f, ex, hp, fun hem hc => he hem (by have := congrArg List.length hc; rw [List.length_set] at this; exact List.eq_nil_of_length_eq_zero this), hI0, by rw [List.length_set]; exact ht, by rw [List.length_set, List.length_set]; exact hl, hro, hf, ?_, ?_, (fun _ _ _ h => by cases h), ?_, ?_⟩⟩, nb⟩
  · intro j z hz
    rw [List.getElem?_set] at hz
    have drop_set : ∀ j, (((vs.set (o + i * e.sz + no) v).drop (o + j * e.sz)).take e.sz) = if j = i then (((vs.drop (o + j * e.sz)).take e.sz).set no v) else ((vs.drop (o + j * e.sz)).take e.sz) := by
      intro j
      apply List.ext_getElem?
      intro k
      rw [List.getElem?_take, List.getElem?_drop]
      by_cases hk2 : k < e.sz
      · rw [if_pos hk2]
        by_cases hji : j = i
        · subst hji
          rw [if_pos rfl, List.getElem?_set, List.getElem?_set, List.getElem?_take, if_pos hk2, List.getElem?_drop]
          by_cases hkn : no = k
          · subst hkn
            simp only [if_true, List.length_take, List.length_drop]
            by_cases hc : o + j * e.sz + no < vs.length
            · rw [if_pos hc, if_pos (by omega)]
            · rw [if_neg hc, if_neg (by omega)]
          · rw [if_neg (by omega), if_neg hkn]
        · rw [if_neg hji, List.getElem?_take, if_pos hk2, List.getElem?_drop, List.getElem?_set_ne]
          intro hc
          -- two places of different elements
          rcases Nat.lt_or_gt_of_ne hji with hlt | hlt
          · have : (j + 1) * e.sz ≤ i * e.sz := Nat.mul_le_mul_right _ hlt
            rw [Nat.add_mul, Nat.one_mul] at this; omega
          · have : (i + 1) * e.sz ≤ j * e.sz := Nat.mul_le_mul_right _ hlt
            rw [Nat.add_mul, Nat.one_mul] at this; omega
      · rw [if_neg hk2]
        split
        · rw [List.getElem?_set, List.getElem?_take, if_neg hk2]
          split
          · omega
          · rfl
        · rw [List.getElem?_take, if_neg hk2]
    rw [drop_set j]
    split at hz
    · rename_i hij
      subst hij
      cases hz
      rw [if_pos rfl, plain_set h4]
      have h0 := (hE i x hx).mono hk
      have := h0.set no (GR.undef (Γ := Γ') (Pu := Pu) (I := I') v)
      rwa [List.set_set] at this
    · rename_i hij
      rw [if_neg (fun hc => hij hc.symm)]
      exact (hE j z hz).mono hk
  · intro j z w hz _ hw
    rw [List.getElem?_set] at hz
    split at hz
    · rename_i hij
      subst hij
      first | (rw [if_pos hi] at hz) | skip
      cases hz
      rw [List.getElem?_set_self (cell i hi)] at hw
      cases hw
      rw [nestGet_set h4]
      refine ⟨ln, hn.mono hk.p hk.i fun b y hp' => hI b fun hc => ?_, hv⟩
      exact (hb b (pos_blk hv hp')).1 hc
    · rename_i hij
      have hji : j ≠ i := fun hc => hij hc.symm
      rw [List.getElem?_set_ne (cne j hji)] at hw
      have hne : ho.map (·.1) ≠ some j := fun hc => by
        cases ho with
        | none => cases hc
        | some q =>
          obtain ⟨j2, n, y⟩ := q
          simp only [Option.map_some, Option.some.injEq] at hc
          exact hji (hc ▸ hho j2 n y rfl)
      obtain ⟨l', a1, a2⟩ := hy j z w hz hne hw
      refine ⟨l', a1.mono hk.p hk.i fun b y hp' => hI b fun hc => ?_, a2⟩
      refine hself j ⟨hne, by rw [h1]; exact (List.getElem?_eq_some_iff.1 hz).1, b0, o, vs, et, f, ex, false, hp, hg, ?_⟩
      rw [hw, ← hc]; exact pos_blk a2 hp'
  · intro j k b n1 n2
    rcases nb b j n1 with ⟨e1, e2⟩ | ⟨e1, e2⟩ <;> rcases nb b k n2 with ⟨g1, g2⟩ | ⟨g1, g2⟩
    · rw [e1, g1]
    · exact absurd g2 ((hb b e2).2 k g1)
    · exact absurd e2 ((hb b g2).2 j e1)
    · exact hd j k b e2 g2
  · intro j n1
    rcases nb b0 j n1 with ⟨e1, e2⟩ | ⟨e1, e2⟩
    · exact (hb b0 e2).1 rfl
    · exact hself j e2
end
end Go.Gv
