/- Lists whose elements hold lists: the operations. -/
import Derived.Test.YtoiiimbhfdnomaaDoorGvOpsY
import Derived.Test.YtoiiimbhfdnomaaDoorGvNestC
set_option linter.unusedSimpArgs false
set_option linter.unusedVariables false
namespace Go.Gv
open Go Go.Iv
section
variable {β : Type} {P : Program} {hint : Hint} {sh : ShT} {Γ Γ1 Γ' : Gam} {Pu Pu1 : Nat → Prop} {H H1 : GH} {I I1 I' : IH} {K : TV → GH → Option β} {r : β}
theorem Good.after (hs : Sim P hint sh Γ Pu H I) (h1 : Sim P hint sh Γ1 Pu1 H1 I1) (he : Ex (Own Γ H I) Γ Pu H I Γ1 Pu1 H1 I1) {run : Option (Value × IH)} (h : Good P hint sh K r Γ1 Pu1 H1 I1 run) : Good P hint sh K r Γ Pu H I run := by
  obtain ⟨t, H2, Γ2, Pu2, v, I2, a, b, c, d, e⟩ := h
  exact ⟨t, H2, Γ2, Pu2, v, I2, a, b, c, d, Ex.trans hs h1 he e⟩
theorem gLenN_ok (hs : Sim P hint sh Γ Pu H I) {t : TypeId} {x : TV} {x' : Value} (h : gLenN P H t x K = some r) (hx : GR Γ Pu I x x') : Good P hint sh K r Γ Pu H I (resV (Iv.valOf I (evLen P I t x'))) := by
  unfold gLenN at h
  split at h
  · rename_i e id hu
    split at h
    · rename_i et e' no net ne xs em ho hg
      cases hx with | all hl hv =>
      obtain ⟨l', hl', ho⟩ := hs.obj _ _ hg
      cases hl.symm.trans hl'
      obtain ⟨a, c, rfl, _⟩ := hv.some
      have h1 := ho.1
      simp only [evLen, hu, Iv.valOf, resV, h1]; exact Good.same hs h (.int _ _)
    · exact gLen_ok hs h hx
  · exact gLen_ok hs h hx
theorem gIndexAddrN_lst {t : TypeId} {e : Sh} {xs : List e.ty} {nl : Option Bool} {cl : Bool} {ix : TV} : gIndexAddrN std P sh H t (.lst e xs nl cl) ix K = gIndexAddr std P sh H t (.lst e xs nl cl) ix K := by
  unfold gIndexAddrN
  split
  · rename_i h; cases h
  · rfl
theorem gIndexAddrN_ok (hs : Sim P hint sh Γ Pu H I) {t : TypeId} {x ix : TV} {x' ix' : Value} (h : gIndexAddrN std P sh H t x ix K = some r) (hx : GR Γ Pu I x x') (hi : GR Γ Pu I ix ix') : Good P hint sh K r Γ Pu H I (resV (evIndexAddr P I t x' ix')) := by
  unfold gIndexAddrN at h
  split at h
  · rename_i e id _ i hu
    split at h
    · rename_i inf et s no net ne xs em ho hinf hg
      cases hi; cases hx with | all hl hv =>
      replace h := bif_some h; obtain ⟨hb, h⟩ := h
      replace h := need_some h; obtain ⟨hc, h⟩ := h
      replace hc := Go.Gv.and_true hc; obtain ⟨hc1, hc2⟩ := hc
      have c1 := ile_true hc1
      have c2 := ilt_true hc2
      obtain ⟨l', hl', ho⟩ := hs.obj _ _ hg
      cases hl.symm.trans hl'
      have h1 := ho.1
      have h2 := ho.2.1
      have hlt : i.toNat < xs.length := by omega
      unfold SlV at hv
      split at hv
      · rw [h1] at hv; omega
      · rename_i b o hp
        obtain ⟨cap, rfl, _⟩ := hv
        have := GR.elm (Γ := Γ) (Pu := Pu) (I := I) (i := i.toNat) (off := 0) hl hp
        rw [Nat.add_zero, h2, beq_true hb] at this
        simp only [evIndexAddr, hu, hinf, h1, ix_ok c1 hlt, if_true, resV, Nat.zero_mul, Nat.add_zero]
        exact Good.same hs h this
    · exact gIndexAddr_ok hs h hx hi
  · exact gIndexAddr_ok hs h hx hi
theorem gOut_ok (hs : Sim P hint sh Γ Pu H I) {t : TypeId} {id i off : Nat} {a' : Value} (h : gOut std H id i off K = some r) (hag : isAggB P t = some false) (ha : GR Γ Pu I (.elm id i off) a') : Good P hint sh K r Γ Pu H I (resV (evLoad P I t a')) := by
  unfold gOut at h
  cases ha with | elm hl hp =>
  split at h
  · rename_i et e no net ne xs em hg
    replace h := bif_some h; obtain ⟨hb, h⟩ := h
    replace h := opt_some h; obtain ⟨x, hx, h⟩ := h
    have := beq_true hb
    subst this
    obtain ⟨vs, f, ex, v, l', q1, q2, q3, q4, q5⟩ := hs.outN hg hl hx hp
    have hld : ∀ o, vs[o]? = some v → ldVar P I t _ o = some v := fun o ho => by unfold ldVar; rw [hag]; simp only; rw [q1]; exact ho
    simp only [evLoad, hld _ q2, resV]
    exact ⟨_, _, _, _, _, _, h, rfl, q3, q4, q5⟩
  · cases h
theorem gLoadN_pel {t : TypeId} {cs : List TV} : gLoadN std P sh H t (.pel cs) K = gLoad std P H t (.pel cs) K := by
  unfold gLoadN
  split <;> rfl
theorem gLoadN_ok (hs : Sim P hint sh Γ Pu H I) {t : TypeId} {a : TV} {a' : Value} (h : gLoadN std P sh H t a K = some r) (ha : GR Γ Pu I a a') : Good P hint sh K r Γ Pu H I (resV (evLoad P I t a')) := by
  unfold gLoadN at h
  split at h
  · exact gLoad_ok hs h ha
  · split at h
    · rename_i id i off
      split at h
      · rename_i no _
        cases hb : (isSl P t && Nat.beq off no) with
        | true =>
          rw [hb] at h
          simp only [cond_true] at h
          split at h
          · rename_i hag
            obtain ⟨s1, e1⟩ := closeN_ok hs id
            exact (gOut_ok s1 h hag ha).after hs s1 e1
          · cases h
        | false =>
          rw [hb] at h
          exact gLoadP_ok hs h ha
      · exact gLoad_ok hs h ha
    · exact gLoad_ok hs h ha
theorem gFill_ok (hs : Sim P hint sh Γ Pu H I) {t : TypeId} {id i off m : Nat} {inf : TypeInfo} {a' x' : Value} (h : gFill std H id i m K = some r) (hno : isNest H id = some off) (hi : P.info? t = some inf) (hsz : inf.size = 1) (ha : GR Γ Pu I (.elm id i off) a') (hx : GR Γ Pu I (.all m) x') : Good P hint sh K r Γ Pu H I (resV (evStore P I t a' x')) := by
  unfold gFill at h
  cases ha with | elm hl hp =>
  rename_i b o l
  split at h
  · rename_i et e no net ne xs em ho net' ne' ys em' hg hgm
    have hno' : no = off := by unfold isNest at hno; rw [hg] at hno; exact Option.some.inj hno
    subst hno'
    replace h := bif_some h; obtain ⟨hb, h⟩ := h
    have := beq_true hb
    subst this
    split at h
    · rename_i hh _
      subst hh
      replace h := need_some h; obtain ⟨hem0, h⟩ := h
      have hem : em' = .ex ∨ ys ≠ [] := by
        cases em' with
        | ex => exact .inl rfl
        | _ => right; rintro rfl; cases hem0
      cases hx with | all hlm hv =>
      obtain ⟨l1, hl1, hN⟩ := hs.obj id _ hg
      cases hl.symm.trans hl1
      have hone : x'.cells.toList = [x'] := cells_one (GR.one (Γ := Γ) (Pu := Pu) (I := I) (.all hlm hv) rfl)
      have hxs : ∃ x, xs[i]? = some x ∧ (∀ j n y, ho = some (j, n, y) → j = i) ∧ K .undef ((H.del m).put id (.nest et e no net' ne' (xs.set i (nestSet e no ne' x ys)) em none)) = some r := by
        split at h
        · obtain ⟨x, h1, h2⟩ := opt_some h
          exact ⟨x, h1, fun _ _ _ h => (by cases h), h2⟩
        · rename_i j n x
          replace h := bif_some h; obtain ⟨_, h⟩ := h
          replace h := need_some h; obtain ⟨hj, h⟩ := h
          have := beq_true hj
          subst this
          have hN' : NestR Γ Pu I l et e no net' ne' xs em (some (i, n, x)) := hN
          obtain ⟨_, _, _, _, h5 | ⟨_, _, _, _, _, _, _, _, _, _, _, _, _, _, hh, _⟩⟩ := hN'
          · cases h5.2.2.2
          · exact ⟨x, (hh i n x rfl).1, fun _ _ _ h => (by cases h; rfl), h⟩
      obtain ⟨x, hxi, hho, hK⟩ := hxs
      have hN' : NestR Γ Pu I l et e no net' ne' xs em ho := hN
      obtain ⟨h1, h2, h3, h4, h5 | ⟨b0, o0, vs, f, ex, hp0, he, hgb, ht, hlen, hro, hf, hrest⟩⟩ := hN'
      · rw [h5.1] at hp; cases hp
      cases hp.symm.trans hp0
      obtain ⟨hnlt, _⟩ := okN_at h4
      have hil : i < xs.length := (List.getElem?_eq_some_iff.1 hxi).1
      have hcell : o + i * e.sz + no < vs.length := by
        have : (i + 1) * e.sz ≤ xs.length * e.sz := Nat.mul_le_mul_right _ hil
        rw [Nat.add_mul, Nat.one_mul] at this; omega
      have hst := stCells_ok (off := o + i * l.sz + no) (vs := x'.cells.toList) hgb hro (by omega) (by rw [hone, h2]; exact hcell) (by rw [hone]; simp only [List.all_cons, List.all_nil, Bool.and_true]; exact GR.one (Γ := Γ) (Pu := Pu) (I := I) (.all hlm hv) rfl) (by rw [hone]; simp)
      have hsz' : x'.cells.size = inf.size := by rw [← Array.length_toList, hone, hsz]; rfl
      simp only [evStore, stVar, hi, if_pos hsz', hst, resV]
      obtain ⟨q1, q2⟩ := hs.layN (I' := I.put b (.cells (setRun vs (o + i * l.sz + no) x'.cells.toList) et f ex false)) hg hl hgm hem hlm hxi hho hv hp hgb (by rw [IH.get_put, if_pos rfl, hone, h2]; rfl) (fun b' hb' => by rw [IH.get_put, if_neg hb']) rfl
      exact ⟨_, _, _, _, _, _, hK, rfl, .undef _, q1, q2⟩
    · cases h
  · cases h
end
end Go.Gv
