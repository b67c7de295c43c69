/- Lists whose elements hold lists: taken out, laid back. -/
import Derived.Test.YtoiiimbhfdnomaaDoorGvNestB
set_option linter.unusedSimpArgs false
set_option linter.unusedVariables false
namespace Go.Gv
open Go Go.Iv
section
variable {β : Type} {P : Program} {hint : Hint} {sh : ShT} {Γ Γ1 Γ' : Gam} {Pu Pu1 : Nat → Prop} {H H1 : GH} {I I1 I' : IH} {K : TV → GH → Option β} {r : β}
theorem set_same {α : Type} {l : List α} {i : Nat} {a : α} (h : l[i]? = some a) : l.set i a = l := by
  apply List.ext_getElem?
  intro k
  rw [List.getElem?_set]
  split
  · rename_i e
    subst e
    rw [if_pos (List.getElem?_eq_some_iff.1 h).1, h]
  · rfl
theorem Sim.apartN (hs : Sim P hint sh Γ Pu H I) {id n : Nat} {o o' : GObj} {l l' : Loc} {b x : Nat} (h1 : H.get id = some o) (h2 : H.get n = some o') (m1 : o.mut = true) (m2 : o'.mut = true) (g1 : Γ id = some l) (g2 : Γ n = some l') (hne : id ≠ n) (hp : l'.pos = some (b, x)) : ¬ At I l o b :=
  fun h => hne (hs.inj id n o o' l l' b h1 h2 m1 m2 g1 g2 h (.inl ⟨x, hp⟩))
theorem ArrR.exact {l : Loc} {et : TypeId} {e : Sh} {xs : List e.ty} {w fz : Bool} {em : Em} (h : ArrR Pu I l et e xs w fz em) (hem : em = .ex ∨ xs ≠ []) : ArrR Pu I l et e xs w fz .ex := by
  rcases hem with rfl | hne
  · exact h
  · obtain ⟨h1, h2, h3, h4 | ⟨b, o, vs, f, ex, sd, hp, he, hr⟩⟩ := h
    · exact absurd h4.2.1 hne
    · exact ⟨h1, h2, h3, .inr ⟨b, o, vs, f, ex, sd, hp, fun _ => hne, hr⟩⟩
theorem Sim.layN (hs : Sim P hint sh Γ Pu H I) {id m : Nat} {et : TypeId} {e : Sh} {no : Nat} {net : TypeId} {ne : Sh} {xs : List e.ty} {em : Em} {em' : Em} {ho : Option (Nat × Nat × e.ty)} {ys : List ne.ty} {l lm : Loc}
    (hg : H.get id = some (.nest et e no net ne xs em ho)) (hl : Γ id = some l) (hgm : H.get m = some (.arr net ne ys true false em')) (hem : em' = .ex ∨ ys ≠ []) (hlm : Γ m = some lm)
    {i : Nat} {x : e.ty} (hx : xs[i]? = some x) (hho : ∀ j n y, ho = some (j, n, y) → j = i) {v : Value} (hv : SlV lm 0 lm.len v)
    {b0 o : Nat} (hp : l.pos = some (b0, o)) {vs : List Value} {f : Nat} {ex : Bool} (hgb : I.get b0 = some (.cells vs et f ex false))
    (hI0 : I'.get b0 = some (.cells (vs.set (o + i * e.sz + no) v) et f ex false)) (hI : ∀ b, b ≠ b0 → I'.get b = I.get b) (hIn : I'.n = I.n) :
    Sim P hint sh Γ Pu ((H.del m).put id (.nest et e no net ne (xs.set i (nestSet e no ne x ys)) em none)) I' ∧
      Ex (Own Γ H I) Γ Pu H I Γ Pu ((H.del m).put id (.nest et e no net ne (xs.set i (nestSet e no ne x ys)) em none)) I' := by
  obtain ⟨l1, hl1, hN⟩ := hs.obj id _ hg
  cases hl.symm.trans hl1
  obtain ⟨l2, hl2, hA0⟩ := hs.obj m _ hgm
  cases hlm.symm.trans hl2
  have hA : ArrR Pu I lm net ne ys true false .ex := ArrR.exact hA0 hem
  have hne : id ≠ m := by rintro rfl; rw [hg] at hgm; cases hgm
  have hown : Own Γ H I b0 := .pos hg rfl hl hp
  have hnp := hs.sep b0 hown
  have hk : Keep Γ Pu I Γ Pu I' := ⟨fun _ _ h => h, fun _ h => h, fun b hb => hI b fun hc => hnp (hc ▸ hb)⟩
  have hap : ∀ b, blkOf v = some b → ¬ At I l (.nest et e no net ne xs em ho) b := fun b hb => by
    obtain ⟨y, hy⟩ := blk_pos hv hb
    exact hs.apartN hg hgm rfl rfl hl hlm hne hy
  obtain ⟨q1, q2⟩ := NestR.lay (Γ' := Γ) hN hx hho hA hv hp hgb hI0 hI hk (fun b hb => ⟨fun hc => hap b hb (.inl ⟨o, hc ▸ hp⟩), fun j _ hn => hap b hb (.inr ⟨j, hn⟩)⟩)
  refine hs.shift (fun k => k = id ∨ k = m) ?_ ?_ (Nat.le_succ _) (Nat.le_refl _) (fun _ _ h => h) (fun _ _ _ h => h) hs.dom ?_ hIn ?_ ?_
  · intro k ob hc h
    rw [GH.get_put, GH.get_del] at h
    split at h
    · rename_i h1; exact absurd (.inl h1) hc
    · split at h
      · cases h
      · exact h
  · intro k s h
    rw [GH.stamp_put, GH.stamp_del] at h
    split at h
    · cases h; exact .inr ⟨Nat.le_refl _, Nat.lt_succ_self _⟩
    · rename_i h1
      split at h
      · cases h
      · rename_i h2; exact .inl ⟨h, fun hc => hc.elim h1 h2⟩
  · intro b hb
    exact hI b fun hc => hb ⟨id, _, l, .inl rfl, hg, rfl, hl, .inl ⟨o, hc ▸ hp⟩⟩
  · intro k ob hc h
    rw [GH.get_put, GH.get_del] at h
    split at h
    · rename_i h1
      subst h1
      cases h
      refine ⟨l, hl, q1, rfl, fun b hat => ?_⟩
      rcases hat with ⟨y, h2⟩ | ⟨j, hj⟩
      · exact ⟨k, _, l, .inl rfl, hg, rfl, hl, .inl ⟨y, h2⟩⟩
      · rcases q2 b j hj with ⟨_, h3⟩ | ⟨_, h3⟩
        · obtain ⟨y, hy⟩ := blk_pos hv h3
          exact ⟨m, _, lm, .inr rfl, hgm, rfl, hlm, .inl ⟨y, hy⟩⟩
        · exact ⟨k, _, l, .inl rfl, hg, rfl, hl, .inr ⟨j, h3⟩⟩
    · rename_i h1
      split at h
      · cases h
      · rename_i h2; exact absurd hc (fun h => h.elim h1 h2)
  · intro k k' ob ob' l1 l2 b c1 c2 g1 g2 _ _ _ _
    have key : ∀ {k ob}, (k = id ∨ k = m) → ((H.del m).put id (.nest et e no net ne (xs.set i (nestSet e no ne x ys)) em none)).get k = some ob → k = id := fun {k ob} hc h => by
      rw [GH.get_put, GH.get_del] at h
      split at h
      · assumption
      · rename_i h1
        split at h
        · cases h
        · rename_i h2; exact absurd hc (fun h => h.elim h1 h2)
    rw [key c1 g1, key c2 g2]
theorem closeN_ok (hs : Sim P hint sh Γ Pu H I) (id : Nat) : Sim P hint sh Γ Pu (closeN H id) I ∧ Ex (Own Γ H I) Γ Pu H I Γ Pu (closeN H id) I := by
  unfold closeN
  split
  · rename_i et e no net ne xs em i n x hg
    split
    · rename_i net' ne' ys hgn
      cases hb : Nat.beq net' net with
      | false => exact ⟨hs, Ex.refl hs⟩
      | true =>
        have := beq_true hb
        subst this
        simp only [cond_true]
        split
        · rename_i hh _
          subst hh
          obtain ⟨l, hl, hN⟩ := hs.obj id _ hg
          have hN' : NestR Γ Pu I l et e no net' ne' xs em (some (i, n, x)) := hN
          obtain ⟨h1, h2, h3, h4, h5 | ⟨b0, o, vs, f, ex, hp, he, hgb, ht, hlen, hro, hf, hE, hy, hh, hd, hself⟩⟩ := hN'
          · cases h5.2.2.2
          · obtain ⟨hx, ln, v, a2, a3, a4⟩ := hh i n x rfl
            exact hs.layN hg hl hgn (.inl rfl) a2 hx (fun j k y h => by cases h; rfl) a4 hp hgb (by rw [set_same a3]; exact hgb) (fun _ _ => rfl) rfl
        · exact ⟨hs, Ex.refl hs⟩
    · exact ⟨hs, Ex.refl hs⟩
  · exact ⟨hs, Ex.refl hs⟩
theorem NestR.cells {l : Loc} {et : TypeId} {e : Sh} {no : Nat} {net : TypeId} {ne : Sh} {xs : List e.ty} {em : Em} {ho : Option (Nat × Nat × e.ty)} (h : NestR Γ Pu I l et e no net ne xs em ho) {i : Nat} {x : e.ty} (hx : xs[i]? = some x) {b o : Nat} (hp : l.pos = some (b, o)) (off : Nat) (hoff : off ≤ e.sz) :
    ∃ bs f ex, I.get b = some (.cells bs et f ex false) ∧ o + i * l.sz + off + (((e.tvs x).set no .undef).drop off).length ≤ bs.length ∧ GRs Γ Pu I (((e.tvs x).set no .undef).drop off) ((bs.drop (o + i * l.sz + off)).take (((e.tvs x).set no .undef).drop off).length) := by
  obtain ⟨h1, h2, h3, h4, h5 | ⟨b0, o', vs, f, ex, hp2, he, hgb, ht, hlen, hro, hf, hE, _⟩⟩ := h
  · rw [h5.1] at hp; cases hp
  · cases hp.symm.trans hp2
    have hr := hE i x hx
    have hlt : ((e.tvs x).set no .undef).length = e.sz := by rw [List.length_set, tvs_len]
    have hil : i < xs.length := (List.getElem?_eq_some_iff.1 hx).1
    have hb : o + i * e.sz + e.sz ≤ vs.length := by
      have : (i + 1) * e.sz ≤ xs.length * e.sz := Nat.mul_le_mul_right _ hil
      rw [Nat.add_mul, Nat.one_mul] at this; omega
    have hd := hr.drop off
    rw [h2]
    have e1 : (((e.tvs x).set no .undef).drop off).length = e.sz - off := by rw [List.length_drop, hlt]
    refine ⟨vs, f, ex, hgb, by rw [e1]; omega, ?_⟩
    rw [e1]
    rw [List.drop_take, List.drop_drop] at hd
    exact hd
theorem gLoadP_ok (hs : Sim P hint sh Γ Pu H I) {t : TypeId} {id i off : Nat} {a' : Value} (h : gLoadP std P H t id i off K = some r) (ha : GR Γ Pu I (.elm id i off) a') : Good P hint sh K r Γ Pu H I (resV (evLoad P I t a')) := by
  unfold gLoadP at h
  cases ha with | elm hl hp =>
  split at h
  · rename_i et e no net ne xs em ho hg
    replace h := bif_some h; obtain ⟨hb, h⟩ := h
    obtain ⟨x, hx, h2⟩ := opt_some h
    split at h2
    · rename_i y hy
      obtain ⟨l', hl', hN⟩ := hs.obj id _ hg
      cases hl.symm.trans hl'
      obtain ⟨bs, f, ex, hgb, hle, hr⟩ := NestR.cells hN hx hp off (ble_true hb)
      obtain ⟨v, hv, hrv⟩ := ldVar_ok (P := P) (t := t) hgb hle hr hy
      simp only [evLoad, hv, resV]
      exact Good.same hs h2 hrv
    · cases h2
  · cases h
theorem Sim.outN (hs : Sim P hint sh Γ Pu H I) {id : Nat} {et : TypeId} {e : Sh} {no : Nat} {net : TypeId} {ne : Sh} {xs : List e.ty} {em : Em} {l : Loc}
    (hg : H.get id = some (.nest et e no net ne xs em none)) (hl : Γ id = some l) {i : Nat} {x : e.ty} (hx : xs[i]? = some x) {b0 o : Nat} (hp : l.pos = some (b0, o)) :
    ∃ vs f ex v l', I.get b0 = some (.cells vs et f ex false) ∧ vs[o + i * l.sz + no]? = some v ∧ GR (Γ.up H.n l') Pu I (.all H.n) v ∧
      Sim P hint sh (Γ.up H.n l') Pu ((H.put id (.nest et e no net ne xs em (some (i, H.n, x)))).new (.arr net ne (nestGet e no ne x) true false .ex)) I ∧
      Ex (Own Γ H I) Γ Pu H I (Γ.up H.n l') Pu ((H.put id (.nest et e no net ne xs em (some (i, H.n, x)))).new (.arr net ne (nestGet e no ne x) true false .ex)) I := by
  obtain ⟨l1, hl1, hN⟩ := hs.obj id _ hg
  cases hl.symm.trans hl1
  have hN' : NestR Γ Pu I l et e no net ne xs em none := hN
  obtain ⟨h1, h2, h3, h4, h5 | ⟨b1, o1, vs, f, ex, hp1, he, hgb, ht, hlen, hro, hf, hE, hy, hh, hd, hself⟩⟩ := hN'
  · rw [h5.1] at hp; cases hp
  cases hp.symm.trans hp1
  obtain ⟨hno, _⟩ := okN_at h4
  have hi : i < xs.length := (List.getElem?_eq_some_iff.1 hx).1
  have hcell : o + i * e.sz + no < vs.length := by
    have : (i + 1) * e.sz ≤ xs.length * e.sz := Nat.mul_le_mul_right _ hi
    rw [Nat.add_mul, Nat.one_mul] at this; omega
  have hv : vs[o + i * e.sz + no]? = some vs[o + i * e.sz + no] := List.getElem?_eq_getElem hcell
  generalize vs[o + i * e.sz + no] = v at hv
  obtain ⟨l', a1, a2⟩ := hy i x v hx (by simp) hv
  have hidn : id < H.n := hs.dom id l hl
  have hk : Keep Γ Pu I (Γ.up H.n l') Pu I := ⟨fun _ _ h => Gam.up_old hs h, fun _ h => h, fun _ _ => rfl⟩
  have upn : Γ.up H.n l' H.n = some l' := by simp [Gam.up]
  have old : ∀ k ob, H.get k = some ob → k ≠ H.n := fun k ob h => by
    obtain ⟨lk, hlk, _⟩ := hs.obj k ob h
    exact Nat.ne_of_lt (hs.dom k lk hlk)
  -- the blocks that stay in
  have stay : ∀ b j, NB I l e.sz no (some i) b j → j ≠ i ∧ NB I l e.sz no none b j := by
    rintro b j ⟨n1, n2⟩
    exact ⟨fun hc => n1 (by rw [hc]), by simp, n2⟩
  have outb : ∀ b y, l'.pos = some (b, y) → NB I l e.sz no none b i := fun b y hp' => ⟨by simp, by rw [h1]; exact hi, b0, o, vs, et, f, ex, false, hp, hgb, by rw [hv]; exact pos_blk a2 hp'⟩
  have newN : NestR (Γ.up H.n l') Pu I l et e no net ne xs em (some (i, H.n, x)) := by
    refine ⟨h1, h2, h3, h4, .inr ⟨b0, o, vs, f, ex, hp, he, hgb, ht, hlen, hro, hf, fun j z hz => (hE j z hz).mono hk, fun j z w hz _ hw => ?_, fun j n z hz => ?_, fun j k b n1 n2 => hd j k b (stay b j n1).2 (stay b k n2).2, fun j n1 => hself j (stay b0 j n1).2⟩⟩
    · obtain ⟨l2, c1, c2⟩ := hy j z w hz (by simp) hw
      exact ⟨l2, c1, c2⟩
    · cases hz
      exact ⟨hx, l', v, upn, hv, a2⟩
  have hget : ∀ k, ((H.put id (.nest et e no net ne xs em (some (i, H.n, x)))).new (.arr net ne (nestGet e no ne x) true false .ex)).get k = if k = H.n then some (.arr net ne (nestGet e no ne x) true false .ex) else if k = id then some (.nest et e no net ne xs em (some (i, H.n, x))) else H.get k := fun k => by
    rw [GH.get_new, GH.get_put]; rfl
  have hstm : ∀ k, ((H.put id (.nest et e no net ne xs em (some (i, H.n, x)))).new (.arr net ne (nestGet e no ne x) true false .ex)).stamp k = if k = H.n then some (H.ck + 1) else if k = id then some H.ck else H.stamp k := fun k => by
    rw [GH.stamp_new, GH.stamp_put]; rfl
  obtain ⟨s1, e1⟩ := hs.shift (H' := (H.put id (.nest et e no net ne xs em (some (i, H.n, x)))).new (.arr net ne (nestGet e no ne x) true false .ex)) (Γ' := Γ.up H.n l') (I' := I) (fun k => k = id ∨ k = H.n)
    (fun k ob hc h => by
      rw [hget] at h
      split at h
      · rename_i c; exact absurd (.inr c) hc
      · split at h
        · rename_i c; exact absurd (.inl c) hc
        · exact h)
    (fun k s h => by
      rw [hstm] at h
      show _ ∨ _ ∧ s < H.ck + 1 + 1
      split at h
      · cases h; exact .inr ⟨by omega, by omega⟩
      · rename_i c1
        split at h
        · cases h; exact .inr ⟨by omega, by omega⟩
        · rename_i c2; exact .inl ⟨h, fun hc => hc.elim c2 c1⟩)
    (by show H.ck ≤ H.ck + 1 + 1; omega) (Nat.le_succ _) hk.g
    (fun k lk hc h => by
      unfold Gam.up at h
      rw [if_neg (fun hc' => hc (.inr hc'))] at h; exact h)
    (fun k lk h => by
      unfold Gam.up at h
      show k < H.n + 1
      split at h
      · omega
      · have := hs.dom k lk h; omega)
    (fun _ _ => rfl) rfl
    (fun k ob hc h => by
      rw [hget] at h
      split at h
      · rename_i c
        subst c
        cases h
        refine ⟨l', upn, a1, rfl, fun b hat => ?_⟩
        rcases hat with ⟨y, hp'⟩ | hh'
        · exact ⟨id, _, l, .inl rfl, hg, rfl, hl, .inr ⟨i, outb b y hp'⟩⟩
        · exact absurd hh' (fun h => h)
      · split at h
        · rename_i c
          subst c
          cases h
          refine ⟨l, hk.g _ _ hl, newN, rfl, fun b hat => ?_⟩
          rcases hat with hat | ⟨j, hj⟩
          · exact ⟨k, _, l, .inl rfl, hg, rfl, hl, .inl hat⟩
          · exact ⟨k, _, l, .inl rfl, hg, rfl, hl, .inr ⟨j, (stay b j hj).2⟩⟩
        · rename_i c1 c2; exact absurd hc (fun h => h.elim c2 c1))
    (fun k k' ob ob' l1 l2 b c1 c2 g1 g2 e1 e2 t1 t2 => by
      have cross : ∀ b, At I l' (.arr net ne (nestGet e no ne x) true false .ex) b → At I l (.nest et e no net ne xs em (some (i, H.n, x))) b → False := fun b u1 u2 => by
        rcases u1 with ⟨y, hp'⟩ | hh'
        · have hb := outb b y hp'
          rcases u2 with ⟨z, hz⟩ | ⟨j, hj⟩
          · rw [hp] at hz; cases hz; exact hself i hb
          · obtain ⟨q1, q2⟩ := stay b j hj
            exact q1 (hd j i b q2 hb)
        · exact hh'
      rw [hget] at g1 g2
      split at g1 <;> split at g2
      · rename_i a b; rw [a, b]
      · rename_i a b
        subst a; cases g1; rw [upn] at e1; cases e1
        split at g2
        · rename_i c
          subst c; cases g2
          cases (hk.g _ _ hl).symm.trans e2
          exact (cross _ t1 t2).elim
        · rename_i c; exact absurd c2 (fun h => h.elim c b)
      · rename_i a b
        subst b; cases g2; rw [upn] at e2; cases e2
        split at g1
        · rename_i c
          subst c; cases g1
          cases (hk.g _ _ hl).symm.trans e1
          exact (cross _ t2 t1).elim
        · rename_i c; exact absurd c1 (fun h => h.elim c a)
      · rename_i a b
        rcases c1 with c1 | c1
        · rcases c2 with c2 | c2
          · rw [c1, c2]
          · exact absurd c2 b
        · exact absurd c1 a)
  exact ⟨vs, f, ex, v, l', hgb, by rw [h2]; exact hv, .all upn a2, s1, e1⟩
end
end Go.Gv
