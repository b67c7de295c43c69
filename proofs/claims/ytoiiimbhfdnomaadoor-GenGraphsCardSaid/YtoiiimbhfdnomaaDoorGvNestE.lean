/- Lists whose elements hold lists: an element's other cells are written. -/
import Derived.Test.YtoiiimbhfdnomaaDoorGvNestD
set_option linter.unusedSimpArgs false
set_option linter.unusedVariables false
namespace Go.Gv
open Go Go.Iv
section
variable {β : Type} {P : Program} {hint : Hint} {sh : ShT} {Γ Γ1 Γ' : Gam} {Pu Pu1 : Nat → Prop} {H H1 : GH} {I I1 I' : IH} {K : TV → GH → Option β} {r : β}
def canC : TV → Bool
  | .int _ _ | .byte _ | .bool _ | .str _ | .lst _ _ none false => true
  | _ => false
theorem tvs_can : ∀ {e : Sh} (x : e.ty), (e.tvs x).all canC = true := by
  intro e
  induction e with
  | cons a b iha ihb => intro x; simp only [Sh.tvs, List.all_append, iha x.1, ihb x.2, Bool.and_true]
  | _ => intro x; rfl
theorem plainC_can {t : TV} (h : plainC t = true) : canC t = true := by cases t <;> first | rfl | cases h
theorem setRunG_can : ∀ {ts l : List TV} {o : Nat}, l.all canC = true → ts.all plainC = true → (setRunG l o ts).all canC = true := by
  intro ts
  induction ts with
  | nil => intro l o h _; exact h
  | cons t ts ih =>
    intro l o h k
    simp only [List.all_cons, Bool.and_eq_true] at k
    refine ih ?_ k.2
    rw [List.all_eq_true] at h ⊢
    intro x hx
    rcases List.mem_or_eq_of_mem_set hx with h1 | h1
    · exact h x h1
    · rw [h1]; exact plainC_can k.1
theorem of_can : ∀ {s : Sh} {l q : List TV} {x : s.ty}, s.of l = some (x, q) → l.all canC = true → l = s.tvs x ++ q := by
  intro s
  induction s with
  | int k =>
    intro l q x h hc
    simp only [Sh.of] at h
    unfold ofInt at h
    split at h
    · split at h
      · rename_i hk; subst hk; cases h; rfl
      · cases h
    · cases h
  | byte => intro l q x h hc; simp only [Sh.of] at h; unfold ofByte at h; split at h <;> cases h; rfl
  | bool => intro l q x h hc; simp only [Sh.of] at h; unfold ofBool at h; split at h <;> cases h; rfl
  | str => intro l q x h hc; simp only [Sh.of] at h; unfold ofStr at h; split at h <;> cases h; rfl
  | cons a b iha ihb =>
    intro l q x h hc
    simp only [Sh.of] at h
    split at h
    · rename_i y l1 h1
      split at h
      · rename_i z l2 h2
        cases h
        have e1 := iha h1 hc
        subst e1
        rw [List.all_append, Bool.and_eq_true] at hc
        have e2 := ihb h2 hc.2
        subst e2
        simp only [Sh.tvs, List.append_assoc]
      · cases h
    · cases h
  | slc e ih =>
    intro l q x h hc
    simp only [Sh.of] at h
    unfold ofSlc at h
    split at h
    · rename_i e' xs nl cl r'
      split at h
      · rename_i hh hs
        subst hh
        cases h
        simp only [List.all_cons, Bool.and_eq_true] at hc
        cases nl with
        | some b => cases hc.1
        | none => cases cl with
          | true => cases hc.1
          | false => rfl
      · cases h
    · simp only [List.all_cons, Bool.and_eq_true] at hc; cases hc.1
    · cases h
theorem ofAll_can {s : Sh} {l : List TV} {x : s.ty} (h : s.ofAll l = some x) (hc : l.all canC = true) : s.tvs x = l := by
  unfold Sh.ofAll at h
  split at h
  · rename_i y heq
    cases h
    have := of_can heq hc
    rw [List.append_nil] at this
    exact this.symm
  · cases h
theorem setRun_get : ∀ (vs bs : List Value) (o k : Nat), (k < o ∨ o + vs.length ≤ k) → (setRun bs o vs)[k]? = bs[k]? := by
  intro vs
  induction vs with
  | nil => intro bs o k _; rfl
  | cons v vs ih =>
    intro bs o k h
    simp only [setRun]
    simp only [List.length_cons] at h
    rw [ih _ (o + 1) k (by omega), List.getElem?_set_ne (by omega)]
theorem setRunG_get : ∀ (vs bs : List TV) (o k : Nat), (k < o ∨ o + vs.length ≤ k) → (setRunG bs o vs)[k]? = bs[k]? := by
  intro vs
  induction vs with
  | nil => intro bs o k _; rfl
  | cons v vs ih =>
    intro bs o k h
    simp only [setRunG]
    simp only [List.length_cons] at h
    rw [ih _ (o + 1) k (by omega), List.getElem?_set_ne (by omega)]
theorem setRunG_set : ∀ (vs bs : List TV) (o k : Nat) (t : TV), (k < o ∨ o + vs.length ≤ k) → (setRunG bs o vs).set k t = setRunG (bs.set k t) o vs := by
  intro vs
  induction vs with
  | nil => intro bs o k t _; rfl
  | cons v vs ih =>
    intro bs o k t h
    simp only [setRunG]
    simp only [List.length_cons] at h
    rw [ih _ (o + 1) k t (by omega), List.set_comm _ _ (by omega)]
theorem GRs.plain : ∀ {l : List TV} {vs : List Value}, l.all plainC = true → GRs Γ Pu I l vs → GRs Γ' Pu1 I' l vs := by
  intro l vs h
  refine GRs.flat ?_
  rw [List.all_eq_true] at h ⊢
  intro t ht
  have := h t ht
  cases t <;> first | rfl | cases this
theorem gStoreP_ok (hs : Sim P hint sh Γ Pu H I) {t : TypeId} {id i off no : Nat} {inf : TypeInfo} {ts : List TV} {a' x' : Value} (h : gStoreP std H id i off ts K = some r) (hpl : ts.all plainC = true) (hi : P.info? t = some inf) (hsz : x'.cells.size = inf.size) (ha : GR Γ Pu I (.elm id i off) a') (hx : GRs Γ Pu I ts x'.cells.toList) : Good P hint sh K r Γ Pu H I (resV (evStore P I t a' x')) := by
  unfold gStoreP at h
  cases ha with | elm hl hp =>
  rename_i b o l
  split at h
  · rename_i et e no net ne xs em hg
    obtain ⟨x, hxi, h⟩ := opt_some h
    replace h := bif_some h; obtain ⟨hc, h⟩ := h
    replace hc := Go.Gv.and_true hc; obtain ⟨hc, hc3⟩ := hc
    replace hc := Go.Gv.and_true hc; obtain ⟨hc1, hc2⟩ := hc
    have hle := ble_true hc2
    have hfar : no < off ∨ off + ts.length ≤ no := by
      rw [Bool.or_eq_true] at hc1
      rcases hc1 with h1 | h1
      · exact .inr (ble_true h1)
      · exact .inl (blt_true h1)
    split at h
    · rename_i y hy
      have hty := ofAll_can hy (setRunG_can (tvs_can x) hpl)
      obtain ⟨l1, hl1, hN⟩ := hs.obj id _ hg
      cases hl.symm.trans hl1
      have hN' : NestR Γ Pu I l et e no net ne xs em none := hN
      obtain ⟨h1, h2, h3, h4, h5 | ⟨b0, o0, vs, f, ex, hp0, he, hgb, ht, hlen, hro, hf, hE, hy2, hh, hd, hself⟩⟩ := hN'
      · rw [h5.1] at hp; cases hp
      cases hp.symm.trans hp0
      obtain ⟨hnlt, hok⟩ := okN_at h4
      have hil : i < xs.length := (List.getElem?_eq_some_iff.1 hxi).1
      have hrow : o + i * e.sz + e.sz ≤ vs.length := by
        have : (i + 1) * e.sz ≤ xs.length * e.sz := Nat.mul_le_mul_right _ hil
        rw [Nat.add_mul, Nat.one_mul] at this; omega
      have hvl := hx.length
      have hone : x'.cells.toList.all Iv.one = true := hx.ones (by
        rw [List.all_eq_true] at hpl ⊢
        intro t ht
        have := hpl t ht
        cases t <;> first | rfl | cases this)
      have hne : x'.cells.toList ≠ [] := by
        intro hc; rw [hc] at hvl
        rw [List.eq_nil_of_length_eq_zero hvl.symm] at hc3; cases hc3
      have hst := stCells_ok (off := o + i * l.sz + off) (vs := x'.cells.toList) hgb hro (by omega) (by rw [h2]; omega) hone hne
      simp only [evStore, stVar, hi, if_pos hsz, hst, resV]
      rw [h2]
      generalize x'.cells.toList = ws at *
      have hfarW : ∀ j, (o + j * e.sz + no < o + i * e.sz + off ∨ o + i * e.sz + off + ws.length ≤ o + j * e.sz + no) := by
        intro j
        rw [hvl]
        rcases Nat.lt_trichotomy j i with h | h | h
        · have : (j + 1) * e.sz ≤ i * e.sz := Nat.mul_le_mul_right _ h
          rw [Nat.add_mul, Nat.one_mul] at this; omega
        · subst h; omega
        · have : (i + 1) * e.sz ≤ j * e.sz := Nat.mul_le_mul_right _ h
          rw [Nat.add_mul, Nat.one_mul] at this; omega
      have cell : ∀ j, (setRun vs (o + i * e.sz + off) ws)[o + j * e.sz + no]? = vs[o + j * e.sz + no]? := fun j => setRun_get _ _ _ _ (hfarW j)
      have hnp : ¬ Pu b := hs.sep b (.pos hg rfl hl hp)
      have hgI : ∀ b', b' ≠ b → (I.put b (.cells (setRun vs (o + i * e.sz + off) ws) et f ex false)).get b' = I.get b' := fun b' hb' => by rw [IH.get_put, if_neg hb']
      have k : Keep Γ Pu I Γ Pu (I.put b (.cells (setRun vs (o + i * e.sz + off) ws) et f ex false)) := ⟨fun _ _ h => h, fun _ h => h, fun b' hb' => hgI b' (by rintro rfl; exact hnp hb')⟩
      have nb : ∀ b' j, NB (I.put b (.cells (setRun vs (o + i * e.sz + off) ws) et f ex false)) l e.sz no none b' j → NB I l e.sz no none b' j := by
        rintro b' j ⟨n0, n2, b2, o2, vs2, et2, f2, ex2, sd2, hp2, hg2, hv2⟩
        cases hp.symm.trans hp2
        rw [IH.get_put, if_pos rfl] at hg2
        cases hg2
        rw [cell] at hv2
        exact ⟨n0, n2, b, o, vs, et, f, ex, false, hp, hgb, hv2⟩
      have hng : nestGet e no ne y = nestGet e no ne x := by
        have a1 := (hok y).1
        rw [hty, setRunG_get _ _ _ _ hfar, (hok x).1] at a1
        have a2 := Option.some.inj a1
        injection a2 with _ a3
        exact a3.symm
      have hor : OR P hint Γ Pu (I.put b (.cells (setRun vs (o + i * e.sz + off) ws) et f ex false)) l (.nest et e no net ne (xs.set i y) em none) := by
        refine ⟨by rw [h1]; simp, h2, h3, h4, .inr ⟨b, o, _, f, ex, hp, fun hem hc => he hem (by have := congrArg List.length hc; rw [List.length_set] at this; exact List.eq_nil_of_length_eq_zero this), by rw [IH.get_put, if_pos rfl], by rw [setRun_length]; exact ht, by rw [setRun_length, List.length_set]; exact hlen, hro, hf, ?_, ?_, (fun _ _ _ h => by cases h), fun j k b' n1 n2 => hd j k b' (nb b' j n1) (nb b' k n2), fun j n1 => hself j (nb b j n1)⟩⟩
        · intro j z hz
          by_cases hij : j = i
          · subst hij
            rw [List.getElem?_set_self hil] at hz
            cases hz
            rw [setRun_drop, setRun_take, hty, setRunG_set _ _ _ _ _ hfar]
            exact (GRs.plain hpl hx).setRun ((hE j x hxi).mono k) off
          · rw [List.getElem?_set_ne (Ne.symm hij)] at hz
            rw [setRun_far]
            · exact (hE j z hz).mono k
            · rcases Nat.lt_or_gt_of_ne hij with hlt | hgt
              · left
                have : (j + 1) * e.sz ≤ i * e.sz := Nat.mul_le_mul_right _ hlt
                rw [Nat.add_mul, Nat.one_mul] at this; omega
              · right
                have : (i + 1) * e.sz ≤ j * e.sz := Nat.mul_le_mul_right _ hgt
                rw [Nat.add_mul, Nat.one_mul] at this; omega
        · intro j z w hz _ hw
          rw [cell] at hw
          have hz2 : ∃ z0, xs[j]? = some z0 ∧ nestGet e no ne z = nestGet e no ne z0 := by
            by_cases hij : j = i
            · subst hij
              rw [List.getElem?_set_self hil] at hz
              cases hz
              exact ⟨x, hxi, hng⟩
            · rw [List.getElem?_set_ne (Ne.symm hij)] at hz
              exact ⟨z, hz, rfl⟩
          obtain ⟨z0, hz0, hze⟩ := hz2
          obtain ⟨l', a1, a2⟩ := hy2 j z0 w hz0 (by simp) hw
          rw [hze]
          refine ⟨l', a1.mono k.p k.i fun b' y' hp' => hgI b' ?_, a2⟩
          rintro rfl
          exact hself j ⟨by simp, by rw [h1]; exact (List.getElem?_eq_some_iff.1 hz0).1, b', o, vs, et, f, ex, false, hp, hgb, by rw [hw]; exact pos_blk a2 hp'⟩
      obtain ⟨s2, e2⟩ := hs.turn hg rfl hl hp (.nest et e no net ne (xs.set i y) em none) (.cells (setRun vs (o + i * e.sz + off) ws) et f ex false) hor
        (fun b' hb' => by
          obtain ⟨j, hj⟩ := hb'
          have hat : At I l (.nest et e no net ne xs em none) b' := .inr ⟨j, nb b' j hj⟩
          exact ⟨⟨id, _, l, hg, rfl, hl, hat⟩, fun id2 o2 l2 hne2 hg2 hm2 hl2 hat2 => hne2 (hs.inj id2 id o2 _ l2 l b' hg2 hg hm2 rfl hl2 hl hat2 hat)⟩)
      exact ⟨_, _, _, _, _, _, h, rfl, .undef _, s2, e2⟩
    · cases h
  · cases h
theorem gStoreN_ok (hs : Sim P hint sh Γ Pu H I) {t : TypeId} {a x : TV} {a' x' : Value} (h : gStoreN std P H t a x K = some r) (ha : GR Γ Pu I a a') (hx : GR Γ Pu I x x') : Good P hint sh K r Γ Pu H I (resV (evStore P I t a' x')) := by
  unfold gStoreN at h
  split at h
  · rename_i id i off
    split at h
    · rename_i no hno
      split at h
      · rename_i inf hi
        replace h := bif_some h; obtain ⟨hc, h⟩ := h
        replace hc := Go.Gv.and_true hc; obtain ⟨hc1, hc2⟩ := hc
        have hl := beq_true hc1
        cases hb : (Nat.beq off no && Nat.beq x.cells.length 1) with
        | true =>
          rw [hb] at h
          simp only [cond_true] at h
          replace hb := Go.Gv.and_true hb; obtain ⟨hb1, hb2⟩ := hb
          have := beq_true hb1
          subst this
          split at h
          · exact gFill_ok hs h hno hi (by rw [← hl]; rfl) ha hx
          · cases h
        | false =>
          rw [hb] at h
          simp only [cond_false] at h
          replace h := bif_some h; obtain ⟨hpl, h⟩ := h
          obtain ⟨s1, e1⟩ := closeN_ok hs id
          have hc := hx.cells hc2
          have hsz : x'.cells.size = inf.size := by rw [← Array.length_toList, hc.length, hl]
          exact (gStoreP_ok (no := no) s1 h hpl hi hsz ha hc).after hs s1 e1
      · cases h
    · exact gStore_ok hs h ha hx
  · exact gStore_ok hs h ha hx
end
end Go.Gv
