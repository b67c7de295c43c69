/- The pure evaluator's operations are the ideal one's (the fifth part): looks into lists, cuts, appends. -/
import Derived.Test.YtoiiimbhfdnomaaDoorGvOpsD
namespace Go.Gv
open Go Go.Iv

section
variable {β : Type} {P : Program} {hint : Hint} {Γ Γ1 : Gam} {Pu Pu1 : Nat → Prop} {H H1 : GH} {I I1 : IH} {K : TV → GH → Option β} {r : β}

theorem gLen_ok (hs : Sim P hint Γ Pu H I) {t : TypeId} {x : TV} {x' : Value} (h : gLen P H t x K = some r) (hx : GR Γ Pu I x x') : Good P hint K r Γ Pu H I (resV (Iv.valOf I (evLen P I t x'))) := by
  unfold gLen at h
  split at h
  · rename_i s hu; cases hx; simp only [evLen, hu, Iv.valOf, resV]; exact Good.same hs h (.int _ _)
  · rename_i n e hu; simp only [evLen, hu, Iv.valOf, resV]; exact Good.same hs h (.int _ _)
  · rename_i e hu; cases hx; simp only [evLen, hu, Iv.valOf, resV]; exact Good.same hs h (.int _ _)
  · rename_i e _ xs _ _ hu
    cases hx with | lst he _ _ =>
    obtain ⟨⟨a, c, rfl⟩, _⟩ := he.lies
    simp only [evLen, hu, Iv.valOf, resV]; exact Good.same hs h (.int _ _)
  · rename_i e id hu
    cases hx with | all hl hv =>
    split at h
    · rename_i et e' xs w fz em hg
      obtain ⟨l', hl', ho⟩ := hs.obj _ _ hg
      cases hl.symm.trans hl'
      obtain ⟨a, c, rfl, _⟩ := hv.some
      have h1 := ho.1
      simp only [evLen, hu, Iv.valOf, resV, h1]; exact Good.same hs h (.int _ _)
    · cases h
  · rename_i e _ _ len hu
    cases hx with | own hl hle hv =>
    obtain ⟨a, c, rfl, _⟩ := hv.some
    simp only [evLen, hu, Iv.valOf, resV]; exact Good.same hs h (.int _ _)
  · rename_i k e hu; cases hx; simp only [evLen, hu, Iv.valOf, resV]; exact Good.same hs h (.int _ _)
  · cases h

theorem gAmong_some {i : Int} : ∀ {n : Nat} {K : Nat → Option β}, gAmong std i n K = some r → ∃ j : Nat, j < n ∧ i = (j : Int) ∧ K j = some r := by
  intro n
  induction n with
  | zero => intro K h; cases h
  | succ n ih =>
    intro K h
    unfold gAmong at h
    rcases sel_some h with ⟨h1, h2⟩ | ⟨_, h2⟩
    · exact ⟨n, Nat.lt_succ_self n, by simpa using h1, h2⟩
    · obtain ⟨j, h3, h4, h5⟩ := ih h2
      exact ⟨j, Nat.lt_succ_of_lt h3, h4, h5⟩

theorem ix_ok {i : Int} {n : Nat} (h0 : 0 ≤ i) (h1 : i.toNat < n) : (0 ≤ i && i < (n : Int)) = true := by simp; omega

/-- An element of a list that is at rest. -/
theorem Enc.at {e : Sh} {xs : List e.ty} {v : Value} (h : Enc Pu I (.slc e) xs [v]) {i : Nat} {x : e.ty} (hx : xs[i]? = some x) :
    ∃ b off cap, v = .slice (some ⟨b, off, none⟩) xs.length cap ∧ GR Γ Pu I (.pel (e.tvs x)) (.pointer (some ⟨b, off + i * e.sz, none⟩)) := by
  unfold Enc at h
  rcases h with ⟨h1, _⟩ | ⟨b, off, cap, cs, et, fz, ex, sd, h, hb, hg, hc, hl, hxs⟩
  · subst h1; cases hx
  · cases h
    have henc := hxs i x hx
    have hr := henc.tvs (Γ := Γ)
    have h1 := hr.length
    have h2 := henc.len
    have hil : i < xs.length := (List.getElem?_eq_some_iff.1 hx).1
    have hb2 : off + i * e.sz + e.sz ≤ cs.length := by
      have : (i + 1) * e.sz ≤ xs.length * e.sz := Nat.mul_le_mul_right _ hil
      rw [Nat.add_mul, Nat.one_mul] at this; omega
    have h3 : (e.tvs x).length = e.sz := by omega
    exact ⟨b, off, cap, rfl, .pel hb hg (by omega) (by rw [h3]; exact hr)⟩

theorem gIndexAddr_ok (hs : Sim P hint Γ Pu H I) {t : TypeId} {x ix : TV} {x' ix' : Value} (h : gIndexAddr std P H t x ix K = some r) (hx : GR Γ Pu I x x') (hi : GR Γ Pu I ix ix') : Good P hint K r Γ Pu H I (resV (evIndexAddr P I t x' ix')) := by
  unfold gIndexAddr at h
  split at h
  · rename_i n e id off _ i hu
    cases hi; cases hx with | ptr hl hp =>
    split at h
    · rename_i inf _ _ _ hinf hg
      replace h := bif_some h; obtain ⟨_, h⟩ := h
      replace h := gAmong_some h; obtain ⟨j, hj, rfl, h⟩ := h
      simp only [evIndexAddr, hu, hinf, ix_ok (Int.natCast_nonneg j) (by simpa using hj), if_true, resV, Int.toNat_natCast]
      exact Good.same hs h (.ptr hl hp)
    · rename_i inf et s xs w fz em hinf hg
      replace h := bif_some h; obtain ⟨hb, h⟩ := h
      replace hb := Go.Gv.and_true hb; obtain ⟨hb1, hb2⟩ := hb
      have e1 := beq_true hb1
      have e2 := beq_true hb2
      subst e2
      replace h := need_some h; obtain ⟨hc, h⟩ := h
      replace hc := Go.Gv.and_true hc; obtain ⟨hc1, hc2⟩ := hc
      have c1 := ile_true hc1
      have c2 := ilt_true hc2
      obtain ⟨l', hl', ho⟩ := hs.obj _ _ hg
      cases hl.symm.trans hl'
      simp only [evIndexAddr, hu, hinf, ix_ok c1 (show i.toNat < n by omega), if_true, resV, Nat.zero_add]
      have := GR.elm (Γ := Γ) (Pu := Pu) (I := I) (i := i.toNat) (off := 0) hl hp
      rw [ho.2.1, e1, Nat.zero_add, Nat.add_zero] at this
      exact Good.same hs h this
    · cases h
  · rename_i e s xs _ _ _ i hu
    cases hi; cases hx with | lst he _ _ =>
    split at h
    · rename_i inf hinf
      replace h := bif_some h; obtain ⟨hb, h⟩ := h
      replace h := need_some h; obtain ⟨hc, h⟩ := h
      replace h := opt_some h; obtain ⟨y, hy, h⟩ := h
      obtain ⟨b, off, cap, rfl, hr⟩ := he.at (Γ := Γ) hy
      have hlt : i.toNat < xs.length := (List.getElem?_eq_some_iff.1 hy).1
      simp only [evIndexAddr, hu, hinf, ix_ok (ile_true hc) hlt, if_true, resV]
      rw [← beq_true hb]
      exact Good.same hs h hr
    · cases h
  · rename_i e id _ i hu
    cases hi; cases hx with | all hl hv =>
    split at h
    · rename_i inf et s xs w fz em hinf hg
      replace h := bif_some h; obtain ⟨hb, h⟩ := h
      replace h := need_some h; obtain ⟨hc, h⟩ := h
      replace hc := Go.Gv.and_true hc; obtain ⟨hc1, hc2⟩ := hc
      have c1 := ile_true hc1
      have c2 := ilt_true hc2
      obtain ⟨l', hl', ho⟩ := hs.obj _ _ hg
      cases hl.symm.trans hl'
      have h1 := ho.1
      have h2 := ho.2.1
      have hlt : i.toNat < xs.length := by omega
      unfold SlV at hv
      split at hv
      · rw [h1] at hv; omega
      · rename_i b o hp
        obtain ⟨cap, rfl, _⟩ := hv
        have := GR.elm (Γ := Γ) (Pu := Pu) (I := I) (i := i.toNat) (off := 0) hl hp
        rw [Nat.add_zero, h2, beq_true hb] at this
        simp only [evIndexAddr, hu, hinf, h1, ix_ok c1 hlt, if_true, resV, Nat.zero_mul, Nat.add_zero]
        exact Good.same hs h this
    · cases h
  · rename_i e id off len _ i hu
    cases hi; cases hx with | own hl hle hv =>
    split at h
    · rename_i inf et s xs w fz em hinf hg
      replace h := bif_some h; obtain ⟨hb, h⟩ := h
      replace h := need_some h; obtain ⟨hc, h⟩ := h
      replace hc := Go.Gv.and_true hc; obtain ⟨hc1, hc2⟩ := hc
      have c1 := ile_true hc1
      have c2 := ilt_true hc2
      obtain ⟨l', hl', ho⟩ := hs.obj _ _ hg
      cases hl.symm.trans hl'
      have h2 := ho.2.1
      have hlt : i.toNat < len := by omega
      unfold SlV at hv
      split at hv
      · omega
      · rename_i b o hp
        obtain ⟨cap, rfl, _⟩ := hv
        have := GR.elm (Γ := Γ) (Pu := Pu) (I := I) (i := off + i.toNat) (off := 0) hl hp
        rw [Nat.add_zero, h2, beq_true hb, Nat.add_mul, ← Nat.add_assoc] at this
        simp only [evIndexAddr, hu, hinf, ix_ok c1 hlt, if_true, resV]
        rw [h2, beq_true hb]
        exact Good.same hs h this
    · cases h
  · cases h

theorem gIndex_ok (hs : Sim P hint Γ Pu H I) {t : TypeId} {x ix : TV} {x' ix' : Value} (h : gIndex std P H t x ix K = some r) (hx : GR Γ Pu I x x') (hi : GR Γ Pu I ix ix') : Good P hint K r Γ Pu H I (resV (evIndex P I t x' ix')) := by
  unfold gIndex at h
  split at h
  · rename_i s _ i hu
    cases hi; cases hx
    replace h := need_some h; obtain ⟨hc, h⟩ := h
    replace h := opt_some h; obtain ⟨y, hy, h⟩ := h
    simp only [evIndex, hu, if_pos (ile_true hc), bl_ba, hy, resV]
    exact Good.same hs h (.byte _)
  · rename_i n e cs _ i hu
    cases hi; cases hx with | agg hr =>
    split at h
    · rename_i inf hinf
      replace h := bif_some h; obtain ⟨_, h⟩ := h
      replace h := gAmong_some h; obtain ⟨j, hj, rfl, h⟩ := h
      split at h
      · rename_i v hv
        obtain ⟨v', hp, hr'⟩ := atAgg_ok (P := P) hr hv
        simp only [evIndex, hu, hinf, ix_ok (Int.natCast_nonneg j) (by simpa using hj), if_true, Int.toNat_natCast, hp, Iv.valOf, resV]
        exact Good.same hs h hr'
      · cases h
    · cases h
  · cases h

theorem gExtract_ok (hs : Sim P hint Γ Pu H I) {x : TV} {x' : Value} {i : Nat} (h : gExtract H x i K = some r) (hx : GR Γ Pu I x x') : Good P hint K r Γ Pu H I (resV (evExtract I x' i)) := by
  unfold gExtract at h
  split at h
  · cases hx with | tup hr =>
    split at h
    · rename_i v hv
      obtain ⟨v', h1, h2⟩ := hr.get hv
      simp only [evExtract, h1, Iv.valOf, resV]
      exact Good.same hs h h2
    · cases h
  · cases h

theorem gPick_ok (hs : Sim P hint Γ Pu H I) {c a b : TV} {c' a' b' : Value} (h : gPick H c a b K = some r) (hc : GR Γ Pu I c c') (ha : GR Γ Pu I a a') (hb : GR Γ Pu I b b') : Good P hint K r Γ Pu H I (resV (evPick I c' a' b')) := by
  unfold gPick at h
  split at h
  · rename_i t
    cases hc
    simp only [evPick, resV]
    split at h
    · cases ha; cases hb
      cases t
      · exact Good.same hs h (.bool _)
      · exact Good.same hs h (.bool _)
    · cases t
      · exact Good.same hs h hb
      · exact Good.same hs h ha
  · cases h

/-! ### Cuts -/
theorem bound_ok {y : Nat} {t : TV} {v : Value} {c : Bool} {n : Nat} (h : boundG y t = some (c, n)) (hc : c = true) (hr : GR Γ Pu I t v) : bound y v = some n ∧ n ≤ y := by
  unfold boundG at h
  split at h
  · cases hr; cases h
    rename_i k i
    replace hc := Go.Gv.and_true hc; obtain ⟨h1, h2⟩ := hc
    have a1 := ile_true h1
    have a2 := ile_true h2
    refine ⟨?_, by omega⟩
    unfold bound
    simp only
    rw [if_pos (by simp [a1, a2])]
  · cases h

inductive OptR (Γ : Gam) (Pu : Nat → Prop) (I : IH) : Option TV → Option Value → Prop
  | none : OptR Γ Pu I none none
  | some {t : TV} {v : Value} : GR Γ Pu I t v → OptR Γ Pu I (some t) (some v)

theorem boundO_ok {y d : Nat} (hd : d ≤ y) {t : Option TV} {v : Option Value} {c : Bool} {n : Nat} (h : boundGO y d t = some (c, n)) (hc : c = true) (hr : OptR Γ Pu I t v) : boundO y d v = some n ∧ n ≤ y := by
  cases hr with
  | none => unfold boundGO at h; cases h; exact ⟨rfl, hd⟩
  | some hr => exact bound_ok h hc hr

theorem gBounds_some {len : Nat} {lo hi : Option TV} {lo' hi' : Option Value} {K : Nat → Nat → Option β} (h : gBounds std len lo hi K = some r) (hlo : OptR Γ Pu I lo lo') (hhi : OptR Γ Pu I hi hi') :
    ∃ l u, boundO len len hi' = some u ∧ boundO u 0 lo' = some l ∧ l ≤ u ∧ u ≤ len ∧ K l u = some r := by
  unfold gBounds at h
  split at h
  · rename_i c u hu
    replace h := need_some h; obtain ⟨hc, h⟩ := h
    obtain ⟨h1, h2⟩ := boundO_ok (Nat.le_refl _) hu hc hhi
    split at h
    · rename_i d l hl
      replace h := need_some h; obtain ⟨hd, h⟩ := h
      obtain ⟨h3, h4⟩ := boundO_ok (Nat.zero_le _) hl hd hlo
      exact ⟨l, u, h1, h3, h4, h2, h⟩
    · cases h
  · cases h

theorem boundO_more {y y' d : Nat} (hy : y ≤ y') {v : Option Value} {n : Nat} (h : boundO y d v = some n) : boundO y' d v = some n := by
  cases v with
  | none => exact h
  | some v =>
    unfold boundO bound at h ⊢
    cases v with
    | int k i =>
      simp only at h ⊢
      split at h
      · rename_i hc
        simp only [Bool.and_eq_true, decide_eq_true_eq] at hc
        rw [if_pos (by simp; omega)]; exact h
      · cases h
    | _ => cases h

/-- A cut of a list's value. -/
theorem evSliceOf_ok {b off sz len cap l u tot : Nat} {lo' hi' : Option Value} (h1 : boundO len len hi' = some u) (h2 : boundO u 0 lo' = some l) (hul : u ≤ len) (hlu : l ≤ u) (hc : CapOK cap sz len off tot) :
    ∃ cap', evSliceOf (some ⟨b, off, none⟩) sz len cap lo' hi' none = some (.slice (some ⟨b, off + l * sz, none⟩) (u - l) cap') ∧ CapOK cap' sz (u - l) (off + l * sz) tot := by
  rcases hc with rfl | ⟨c1, c2, c3⟩
  · refine ⟨unk + sz, ?_, .inl rfl⟩
    unfold evSliceOf
    simp only [Nat.le_add_right, if_true, beq_self_eq_true, h1, h2]
  · refine ⟨cap - l, ?_, .inr ⟨by omega, by omega, ?_⟩⟩
    · unfold evSliceOf
      simp only [if_neg (Nat.not_le_of_lt c1)]
      have : boundO cap len hi' = some u := boundO_more c2 h1
      rw [this]; simp only [h2]
    · rw [Nat.sub_mul]
      have : l * sz ≤ cap * sz := Nat.mul_le_mul_right _ (by omega)
      omega

theorem gSlice_ok (hs : Sim P hint Γ Pu H I) {t : TypeId} {x : TV} {x' : Value} {lo hi mx : Option TV} {lo' hi' mx' : Option Value} (h : gSlice std P H t x lo hi mx K = some r) (hx : GR Γ Pu I x x') (hlo : OptR Γ Pu I lo lo') (hhi : OptR Γ Pu I hi hi') (hmx : OptR Γ Pu I mx mx') :
    Good P hint K r Γ Pu H I (resV (evSlice P I t x' lo' hi' mx')) := by
  unfold gSlice at h
  split at h
  · rename_i s hu
    cases hx; cases hmx
    obtain ⟨l, u, h1, h2, h3, h4, h5⟩ := gBounds_some h hlo hhi
    have h1' : boundO (ba s).size (ba s).size hi' = some u := h1
    simp only [evSlice, hu, h1', h2, bl_ba, resV]
    exact Good.same hs h5 (.str _)
  · rename_i e hu
    cases hx; cases hmx
    split at h
    · rename_i i hi
      obtain ⟨l, u, h1, h2, h3, h4, h5⟩ := gBounds_some h hlo hhi
      have h0 : u = 0 := by omega
      subst h0
      have h6 : boundO 0 0 hi' = some 0 := h1
      simp only [evSlice, hu, hi, evSliceOf, h6, h2, resV]
      exact Good.same hs h5 (.raw _)
    · cases h
  · rename_i e s xs nl cl hu
    cases hmx; cases hx with | lst he hn _ =>
    split at h
    · rename_i i hi
      replace h := bif_some h; obtain ⟨hb, h⟩ := h
      have hsz := beq_true hb
      obtain ⟨l, u, h1, h2, h3, h4, h5⟩ := gBounds_some h hlo hhi
      have he0 := he
      unfold Enc at he
      rcases he with ⟨rfl, he⟩ | ⟨b, off, cap, cs, et, fz, ex, sd, he, hb, hg, hc, hl, hxs⟩
      · cases he
        have h0 : u = 0 := by have : u ≤ 0 := h4; omega
        subst h0
        have h6 : boundO 0 0 hi' = some 0 := h1
        simp only [evSlice, hu, hi, evSliceOf, h6, h2, resV]
        have h7 : l = 0 := by omega
        subst h7
        exact Good.same hs h5 (.lst (.inl ⟨by simp, rfl⟩) hn (fun h => by cases h))
      · cases he
        obtain ⟨cap', e1, e2⟩ := evSliceOf_ok (b := b) (tot := cs.length) h1 h2 h4 h3 (hsz ▸ hc)
        simp only [evSlice, hu, hi, e1, resV]
        have hlen : ((xs.drop l).take (u - l)).length = u - l := by simp; omega
        refine Good.same hs h5 (.lst (.inr ⟨b, off + l * s.sz, cap', cs, et, fz, ex, sd, ?_, hb, hg, ?_, ?_, ?_⟩) (fun c hc => hn c hc) (fun h => by cases h))
        · rw [hlen, hsz]
        · rw [hlen, hsz]; exact e2
        · rw [hlen]
          have : (l + (u - l)) * s.sz ≤ xs.length * s.sz := Nat.mul_le_mul_right _ (by omega)
          rw [Nat.add_mul] at this; omega
        · have hr : Row Pu I s xs cs off := hxs
          exact hr.part l (u - l)
    · cases h
  · rename_i e id hu
    cases hmx; cases hx with | all hl hv =>
    split at h
    · rename_i i et s xs w fz em hi hg
      replace h := bif_some h; obtain ⟨hb, h⟩ := h
      have hsz := beq_true hb
      obtain ⟨l, u, h1, h2, h3, h4, h5⟩ := gBounds_some h hlo hhi
      obtain ⟨l', hl', ho⟩ := hs.obj _ _ hg
      cases hl.symm.trans hl'
      have o1 := ho.1
      have o2 := ho.2.1
      unfold SlV at hv
      split at hv
      · rename_i hp
        obtain ⟨rfl, h0⟩ := hv
        have hu0 : u = 0 := by omega
        subst hu0
        have h6 : boundO 0 0 hi' = some 0 := by rw [← o1, h0] at h1; exact h1
        simp only [evSlice, hu, hi, evSliceOf, h6, h2, resV]
        exact Good.same hs h5 (.own hl (by omega) (by unfold SlV; rw [hp]; exact ⟨rfl, by omega⟩))
      · rename_i b o hp
        obtain ⟨cap, rfl, hc⟩ := hv
        rw [← o1] at h1 h4
        obtain ⟨cap', e1, e2⟩ := evSliceOf_ok (b := b) h1 h2 h4 h3 (by rw [o2, hsz] at hc; exact hc)
        simp only [evSlice, hu, hi]
        rw [o2, hsz, e1]
        simp only [resV]
        refine Good.same hs h5 (.own hl (by omega) ?_)
        unfold SlV; rw [hp]
        refine ⟨cap', ?_, ?_⟩
        · rw [o2, hsz]; simp
        · rw [o2, hsz]; simpa using e2
    · cases h
  · rename_i e id off len hu
    cases hmx; cases hx with | own hl hle hv =>
    split at h
    · rename_i i et s xs w fz em hi hg
      replace h := bif_some h; obtain ⟨hb, h⟩ := h
      have hsz := beq_true hb
      obtain ⟨l, u, h1, h2, h3, h4, h5⟩ := gBounds_some h hlo hhi
      obtain ⟨l', hl', ho⟩ := hs.obj _ _ hg
      cases hl.symm.trans hl'
      have o2 := ho.2.1
      unfold SlV at hv
      split at hv
      · rename_i hp
        obtain ⟨rfl, h0⟩ := hv
        subst h0
        have hu0 : u = 0 := by omega
        subst hu0
        have h6 : boundO 0 0 hi' = some 0 := h1
        simp only [evSlice, hu, hi, evSliceOf, h6, h2, resV]
        exact Good.same hs h5 (.own hl (by omega) (by unfold SlV; rw [hp]; exact ⟨rfl, by omega⟩))
      · rename_i b o hp
        obtain ⟨cap, rfl, hc⟩ := hv
        obtain ⟨cap', e1, e2⟩ := evSliceOf_ok (b := b) h1 h2 h4 h3 (by rw [o2, hsz] at hc; exact hc)
        simp only [evSlice, hu, hi]
        rw [o2, hsz, e1]
        simp only [resV]
        refine Good.same hs h5 (.own hl (by omega) ?_)
        unfold SlV; rw [hp]
        refine ⟨cap', ?_, ?_⟩
        · rw [o2, hsz, Nat.add_mul, Nat.add_assoc]
        · rw [o2, hsz, Nat.add_mul, ← Nat.add_assoc]; exact e2
    · cases h
  · rename_i e s xs nl cl k hu
    split at h
    · rename_i i k2 hi
      replace h := bif_some h; obtain ⟨hb, h⟩ := h
      have hsz := beq_true hb
      cases hlo
      cases hhi with | some hhi =>
      cases hmx with | some hmx =>
      cases hhi; cases hmx
      cases hx with | lst he hn _ =>
      have key : nilB x' = false → ∀ nl', (∀ c, nl' = some c → nilB x' = c) → K (.lst s [] nl' true) H = some r → Good P hint K r Γ Pu H I (resV (evSlice P I t x' none (some (.int k2 (.ofNat 0))) (some (.int k (.ofNat 0))))) := by
        intro hnn nl' hn' h
        unfold Enc at he
        rcases he with ⟨h1, he⟩ | ⟨b, off, cap, cs, et, fz, ex, sd, he, hb, hg, hc, hl, hxs⟩
        · cases he; cases hnn
        · cases he
          have : evSliceOf (some ⟨b, off, none⟩) i.size xs.length cap none (some (.int k2 (.ofNat 0))) (some (.int k (.ofNat 0))) = some (.slice (some ⟨b, off + 0 * i.size, none⟩) (0 - 0) (0 - 0)) := by
            unfold evSliceOf
            have b0 : ∀ y : Nat, bound y (.int k (.ofNat 0)) = some 0 := fun y => by unfold bound; simp only; rw [if_pos (by simp)]; rfl
            have b1 : ∀ y : Nat, bound y (.int k2 (.ofNat 0)) = some 0 := fun y => by unfold bound; simp only; rw [if_pos (by simp)]; rfl
            simp only [b0, b1]
            rw [if_pos (by unfold unk; exact Nat.two_pow_pos 64)]
            rfl
          simp only [evSlice, hu, hi, this, resV]
          refine Good.same hs h (.lst (.inr ⟨b, off + 0 * i.size, 0, cs, et, fz, ex, sd, rfl, hb, hg, .inr ⟨by unfold unk; exact Nat.two_pow_pos 64, Nat.le_refl _, by simp; omega⟩, by simp; omega, fun i x h => by cases h⟩) (fun c hc => hn' c hc) (fun _ => ⟨rfl, rfl⟩))
      split at h
      · exact key (hn false rfl) _ (fun c hc => by cases hc; exact hn false rfl) h
      · replace h := need_some h; obtain ⟨hx, h⟩ := h
        refine key ?_ _ (fun c hc => by cases hc) h
        obtain ⟨_, _, _, _, h1, _⟩ := lst_nilB he
        cases hq : nilB x' with
        | false => rfl
        | true => rw [h1 hq] at hx; cases hx
    · cases h
  · cases h
end
end Go.Gv
