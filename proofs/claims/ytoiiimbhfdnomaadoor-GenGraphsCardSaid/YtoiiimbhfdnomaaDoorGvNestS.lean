/- Some objects become others: those that were concerned give their blocks, those that come of them have them. -/
import Derived.Test.YtoiiimbhfdnomaaDoorGvHeap
set_option linter.unusedSimpArgs false
set_option linter.unusedVariables false
namespace Go.Gv
open Go Go.Iv
section
variable {P : Program} {hint : Hint} {sh : ShT}
variable {Γ Γ' : Gam} {Pu : Nat → Prop} {H H' : GH} {I I' : IH}
def Of (C : Nat → Prop) (Γ : Gam) (H : GH) (I : IH) (b : Nat) : Prop := ∃ k o l, C k ∧ H.get k = some o ∧ o.mut = true ∧ Γ k = some l ∧ At I l o b
theorem Of.own {C : Nat → Prop} {b : Nat} (h : Of C Γ H I b) : Own Γ H I b := by
  obtain ⟨k, o, l, _, h1, h2, h3, h4⟩ := h
  exact ⟨k, o, l, h1, h2, h3, h4⟩
theorem Sim.shiftN (hs : Sim P hint sh Γ Pu H I) (C : Nat → Prop)
    (hg : ∀ k o, ¬ C k → H'.get k = some o → H.get k = some o)
    (hst : ∀ k s, H'.stamp k = some s → H.stamp k = some s ∧ ¬ C k ∨ H.ck ≤ s ∧ s < H'.ck)
    (hck : H.ck ≤ H'.ck) (hn : H.n ≤ H'.n)
    (hΓ : ∀ k l, Γ k = some l → Γ' k = some l) (hΓ2 : ∀ k l, ¬ C k → Γ' k = some l → Γ k = some l) (hΓ3 : ∀ k l, Γ' k = some l → k < H'.n)
    (hI : ∀ b, b < I.n → ¬ Of C Γ H I b → I'.get b = I.get b) (hIn : I.n ≤ I'.n) (hfr : ∀ b, I'.n ≤ b → I'.get b = none)
    (hC : ∀ k o, C k → H'.get k = some o → ∃ l, Γ' k = some l ∧ OR P hint Γ' Pu I' l o ∧ o.mut = true ∧ ∀ b, At I' l o b → Of C Γ H I b ∨ I.n ≤ b)
    (hinj : ∀ k k' o o' l l' b, C k → C k' → H'.get k = some o → H'.get k' = some o' → Γ' k = some l → Γ' k' = some l' → At I' l o b → At I' l' o' b → k = k') :
    Sim P hint sh Γ' Pu H' I' ∧ Ex (Own Γ H I) Γ Pu H I Γ' Pu H' I' := by
  have hp : ∀ b, Pu b → I'.get b = I.get b := fun b hb => hI b (hs.pu_lt hb) fun h => hs.sep b h.own hb
  have hk : Keep Γ Pu I Γ' Pu I' := ⟨hΓ, fun _ h => h, hp⟩
  -- what the others have
  have oth : ∀ k o l b, ¬ C k → H.get k = some o → o.mut = true → Γ k = some l → At I l o b → ¬ Of C Γ H I b := by
    rintro k o l b hck h1 h2 h3 h4 ⟨k', o', l', c, g1, g2, g3, g4⟩
    exact hck ((hs.inj k k' o o' l l' b h1 g1 h2 g2 h3 g3 h4 g4) ▸ c)
  have ato : ∀ k o l b, ¬ C k → H.get k = some o → o.mut = true → Γ k = some l → At I' l o b → At I l o b := fun k o l b hck h1 h2 h3 h4 =>
    h4.congr fun b' x hp' => hI b' (hs.own_lt (.pos h1 h2 h3 hp')) (oth k o l b' hck h1 h2 h3 (.inl ⟨x, hp'⟩))
  have ownI : ∀ b, Own Γ' H' I' b → Own Γ H I b ∨ I.n ≤ b := by
    rintro b ⟨k, o, l, h1, h2, h3, h4⟩
    by_cases c : C k
    · obtain ⟨l', g1, _, _, g2⟩ := hC k o c h1
      cases h3.symm.trans g1
      exact (g2 b h4).imp (fun h => h.own) id
    · have e1 := hg k o c h1
      have e2 := hΓ2 k l c h3
      exact .inl ⟨k, o, l, e1, h2, e2, ato k o l b c e1 h2 e2 h4⟩
  refine ⟨⟨?_, ?_, fun b h hpu => (ownI b h).elim (fun h => hs.sep b h hpu) (fun h => Nat.lt_irrefl _ (Nat.lt_of_lt_of_le (hs.pu_lt hpu) h)), hΓ3, ?_, ?_, Nat.le_trans hs.ro hIn, Nat.le_trans hs.gn hn, ?_, ?_, hs.tabK hk.p hk.i⟩, ⟨hΓ, hn, hIn, fun _ h => h, fun b hb ho => hI b hb fun h => ho h.own, fun b hb h => (ownI b h).elim id (fun h => absurd hb (Nat.not_lt.2 h)), fun _ _ h => .inl h, hck, ?_, ?_⟩⟩
  · intro k o h
    by_cases c : C k
    · obtain ⟨l, g1, g2, _⟩ := hC k o c h
      exact ⟨l, g1, g2⟩
    · have e1 := hg k o c h
      obtain ⟨l, hl, _⟩ := hs.obj k o e1
      exact ⟨l, hΓ k l hl, hs.obj_keep hk e1 hl fun hm b hat => hI b (hs.own_lt ⟨k, o, l, e1, hm, hl, hat⟩) (oth k o l b c e1 hm hl hat)⟩
  · intro k k' o o' l l' b h1 h2 h3 h4 h5 h6 h7 h8
    by_cases c : C k
    · by_cases c' : C k'
      · exact hinj k k' o o' l l' b c c' h1 h2 h5 h6 h7 h8
      · obtain ⟨l2, g1, _, _, g2⟩ := hC k o c h1
        cases h5.symm.trans g1
        have e1 := hg k' o' c' h2
        have e2 := hΓ2 k' l' c' h6
        have e3 := ato k' o' l' b c' e1 h4 e2 h8
        rcases g2 b h7 with g3 | g3
        · exact absurd g3 (oth k' o' l' b c' e1 h4 e2 e3)
        · exact absurd (hs.own_lt ⟨k', o', l', e1, h4, e2, e3⟩) (Nat.not_lt.2 g3)
    · have e1 := hg k o c h1
      have e2 := hΓ2 k l c h5
      have e3 := ato k o l b c e1 h3 e2 h7
      by_cases c' : C k'
      · obtain ⟨l2, g1, _, _, g2⟩ := hC k' o' c' h2
        cases h6.symm.trans g1
        rcases g2 b h8 with g3 | g3
        · exact absurd g3 (oth k o l b c e1 h3 e2 e3)
        · exact absurd (hs.own_lt ⟨k, o, l, e1, h3, e2, e3⟩) (Nat.not_lt.2 g3)
      · have e1' := hg k' o' c' h2
        have e2' := hΓ2 k' l' c' h6
        exact hs.inj k k' o o' l l' b e1 e1' h3 h4 e2 e2' e3 (ato k' o' l' b c' e1' h4 e2' h8)
  · exact hfr
  · intro b hb
    obtain ⟨cs, et, fz, ex, sd, h⟩ := hs.pu b hb
    exact ⟨cs, et, fz, ex, sd, (hp b hb).trans h⟩
  · intro g hgl
    obtain ⟨l, h1, h2⟩ := hs.glob g hgl
    exact ⟨l, hΓ g l h1, h2⟩
  · intro k s h
    rcases hst k s h with ⟨h1, _⟩ | ⟨_, h1⟩
    · exact Nat.lt_of_lt_of_le (hs.st k s h1) hck
    · exact h1
  · intro k hk'
    cases h : H'.stamp k with
    | none => exact .inl rfl
    | some s =>
      rcases hst k s h with ⟨h1, _⟩ | ⟨h1, _⟩
      · exact .inr (.inl h1.symm)
      · exact .inr (.inr ⟨s, rfl, h1⟩)
  · intro k l b x s h1 h2 h3 h4
    rcases hst k s h2 with ⟨_, c⟩ | ⟨g1, _⟩
    · exact hs.hist_keep hk h1 h3 h4 fun o hg' hm => hI b (hs.own_lt (.pos hg' hm h3 h4)) (oth k o l b c hg' hm h3 (.inl ⟨x, h4⟩))
    · have := hs.st k s h1; omega
theorem Sim.shift (hs : Sim P hint sh Γ Pu H I) (C : Nat → Prop)
    (hg : ∀ k o, ¬ C k → H'.get k = some o → H.get k = some o)
    (hst : ∀ k s, H'.stamp k = some s → H.stamp k = some s ∧ ¬ C k ∨ H.ck ≤ s ∧ s < H'.ck)
    (hck : H.ck ≤ H'.ck) (hn : H.n ≤ H'.n)
    (hΓ : ∀ k l, Γ k = some l → Γ' k = some l) (hΓ2 : ∀ k l, ¬ C k → Γ' k = some l → Γ k = some l) (hΓ3 : ∀ k l, Γ' k = some l → k < H'.n)
    (hI : ∀ b, ¬ Of C Γ H I b → I'.get b = I.get b) (hIn : I'.n = I.n)
    (hC : ∀ k o, C k → H'.get k = some o → ∃ l, Γ' k = some l ∧ OR P hint Γ' Pu I' l o ∧ o.mut = true ∧ ∀ b, At I' l o b → Of C Γ H I b)
    (hinj : ∀ k k' o o' l l' b, C k → C k' → H'.get k = some o → H'.get k' = some o' → Γ' k = some l → Γ' k' = some l' → At I' l o b → At I' l' o' b → k = k') :
    Sim P hint sh Γ' Pu H' I' ∧ Ex (Own Γ H I) Γ Pu H I Γ' Pu H' I' :=
  hs.shiftN C hg hst hck hn hΓ hΓ2 hΓ3 (fun b _ => hI b) (Nat.le_of_eq hIn.symm) (fun b hb => by
    rw [hIn] at hb
    by_cases h : Of C Γ H I b
    · have := hs.own_lt h.own; omega
    · rw [hI b h]; exact hs.fresh b hb)
    (fun k o c h => by
      obtain ⟨l, a, b, d, e⟩ := hC k o c h
      exact ⟨l, a, b, d, fun x hx => .inl (e x hx)⟩) hinj
end
end Go.Gv
