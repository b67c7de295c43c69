/- The pure evaluator's operations are the ideal one's (the sixth part): appends. -/
import Derived.Test.YtoiiimbhfdnomaaDoorGvOpsE
namespace Go.Gv
open Go Go.Iv

section
variable {β : Type} {P : Program} {hint : Hint} {O : Nat → Prop} {Γ Γ1 : Gam} {Pu Pu1 : Nat → Prop} {H H1 : GH} {I I1 I2 : IH} {K : TV → GH → Option β} {r : β}

theorem Ex.congrI (h : Ex O Γ Pu H I Γ1 Pu1 H1 I1) (hg : ∀ b, I2.get b = I1.get b) (hn : I2.n = I1.n) : Ex O Γ Pu H I Γ1 Pu1 H1 I2 :=
  ⟨h.g, h.hn, hn ▸ h.n, h.p, fun b hb ho => (hg b).trans (h.keep b hb ho), h.own, h.pn, h.ck, h.stm, fun id l b x s a b' c d => (hg b).trans (h.hist id l b x s a b' c d)⟩

theorem setRun_at : ∀ (vs bs : List Value) (a k m : Nat), k + m ≤ vs.length → a + vs.length ≤ bs.length → ((setRun bs a vs).drop (a + k)).take m = (vs.drop k).take m := by
  intro vs
  induction vs with
  | nil => intro bs a k m h1 h2; have : m = 0 := by simp at h1; omega
           subst this; simp
  | cons v vs ih =>
    intro bs a k m h1 h2
    simp only [List.length_cons] at h1 h2
    simp only [setRun]
    cases k with
    | succ k =>
      have := ih (bs.set a v) (a + 1) k m (by omega) (by simp; omega)
      rw [show a + (k + 1) = a + 1 + k by omega]
      simpa using this
    | zero =>
      cases m with
      | zero => simp
      | succ m =>
        have h3 := ih (bs.set a v) (a + 1) 0 m (by omega) (by simp; omega)
        have h4 := setRun_far vs (bs.set a v) a (a + 1) 1 (by omega)
        have h5 : a < (setRun (bs.set a v) (a + 1) vs).length := by rw [setRun_length]; simp; omega
        simp only [Nat.add_zero] at h3 ⊢
        rw [List.drop_eq_getElem_cons h5, List.drop_eq_getElem_cons (show a < (bs.set a v).length by simp; omega)] at h4
        rw [List.drop_eq_getElem_cons h5]
        simp only [List.take_succ_cons, List.take_zero, List.cons.injEq] at h4
        rw [List.take_succ_cons, h3, h4.1]
        simp

theorem Row.ofAdd {e : Sh} {xs ys : List e.ty} {vs : List Value} {a : Nat} (h : Row Pu I e xs vs a) (k : Row Pu I e ys vs (a + xs.length * e.sz)) : Row Pu I e (xs ++ ys) vs a := by
  intro i x hi
  rcases Nat.lt_or_ge i xs.length with hlt | hge
  · rw [List.getElem?_append_left hlt] at hi; exact h i x hi
  · rw [List.getElem?_append_right hge] at hi
    have := k _ x hi
    have e1 : a + xs.length * e.sz + (i - xs.length) * e.sz = a + i * e.sz := by
      have : xs.length * e.sz ≤ i * e.sz := Nat.mul_le_mul_right _ hge
      rw [Nat.sub_mul]; omega
    rwa [e1] at this

/-- The last step of an append. -/
noncomputable def appTo (I : IH) (e : TypeId) (size bytes n : Nat) (new : List Value) (s : Value) : Option OpRes :=
  if n = 0 then match s with
    | .slice a l c => some (.val (.slice a l c) I)
    | _ => none
  else evAppendTo I e size bytes n new s

theorem app_new (hs : Sim P hint Γ Pu H I) {e : TypeId} {sp : Sh} {ys : List sp.ty} {cs : List Value} (hsz : 0 < sp.sz) (hlen : cs.length = ys.length * sp.sz) (hrow : Row Pu I sp ys cs 0) (w em : Bool) (f : Nat) (hf : f ≤ ys.length * sp.sz) (hfw : w = true → f = 0) (hem : em = true → ys ≠ []) (cap : Nat) (hcap : CapOK cap sp.sz ys.length 0 cs.length) (ex : Bool) :
    Sim P hint (Γ.up H.n ⟨some (I.n, 0), ys.length, sp.sz, cs.length⟩) Pu (H.new (.arr e sp ys w false em)) (I.new (.cells cs e f ex false)) ∧
      Ex (Own Γ H) Γ Pu H I (Γ.up H.n ⟨some (I.n, 0), ys.length, sp.sz, cs.length⟩) Pu (H.new (.arr e sp ys w false em)) (I.new (.cells cs e f ex false)) ∧
      GR (Γ.up H.n ⟨some (I.n, 0), ys.length, sp.sz, cs.length⟩) Pu (I.new (.cells cs e f ex false)) (.all H.n) (.slice (some ⟨I.n, 0, none⟩) ys.length cap) := by
  have hk := keep_new hs ⟨some (I.n, 0), ys.length, sp.sz, cs.length⟩ (.cells cs e f ex false)
  obtain ⟨s1, e1⟩ := hs.new (.arr e sp ys w false em) (.cells cs e f ex false) ⟨some (I.n, 0), ys.length, sp.sz, cs.length⟩ 0 rfl
    ⟨rfl, rfl, hsz, .inr ⟨I.n, 0, cs, f, ex, false, rfl, hem, by rw [IH.get_new, if_pos rfl], rfl, by omega, fun i x hi => (hrow i x hi).mono hk.p hk.i, fun _ => ⟨hs.ro, rfl, by omega, fun h => by rw [hfw h]; exact Nat.le_refl _⟩, fun h => by cases h⟩⟩
  refine ⟨s1, e1, .all (l := ⟨some (I.n, 0), ys.length, sp.sz, cs.length⟩) (by simp [Gam.up]) ?_⟩
  exact ⟨cap, by simp, by simpa using hcap⟩

theorem app_core (hs : Sim P hint Γ Pu H I) {id : Nat} {e : TypeId} {sp : Sh} {xs ys : List sp.ty} {w em em' : Bool} {l : Loc} {off len n bytes : Nat} {v : Value} {cs : List Value}
    (hg : H.get id = some (.arr e sp xs w false em)) (hl : Γ id = some l) (hv : SlV l off len v) (hle : off + len ≤ xs.length) (hw : w = true ∨ off + len = xs.length)
    (hn : n = ys.length) (hlen : cs.length = ys.length * sp.sz) (hrow : Row Pu I sp ys cs 0) (hroom : (len + ys.length) * (bytes + 1) ≤ roomy)
    (c1 : l.pos = none → ys = [] → em' = true) (c2 : em' = true → l.pos ≠ none → len + ys.length ≠ 0) :
    ∃ Γ1 v' I1, appTo I e sp.sz bytes n cs v = some (.val v' I1) ∧ Sim P hint Γ1 Pu ((H.del id).new (.arr e sp ((xs.drop off).take len ++ ys) w false em')) I1 ∧
      Ex (Own Γ H) Γ Pu H I Γ1 Pu ((H.del id).new (.arr e sp ((xs.drop off).take len ++ ys) w false em')) I1 ∧ GR Γ1 Pu I1 (.all H.n) v' := by
  subst hn
  obtain ⟨l', hl', ho⟩ := hs.obj _ _ hg
  cases hl.symm.trans hl'
  obtain ⟨o1, o2, o3, o4⟩ := ho
  obtain ⟨s1, e1⟩ := hs.drop id
  have hzl : ((xs.drop off).take len).length = len := by simp; omega
  have hones := hrow.ones hlen
  rcases o4 with ⟨hp, hx, hem⟩ | ⟨b, o, vs, f, ex, sd, hp, he, hgb, ht, hbl, hrows, hfz, _⟩
  · -- nowhere
    unfold SlV at hv; rw [hp] at hv
    obtain ⟨rfl, rfl⟩ := hv
    subst hx
    simp only [List.length_nil] at hle
    have h0 : off = 0 := by omega
    subst h0
    simp only [List.drop_nil, List.take_nil, List.nil_append] at hzl ⊢
    by_cases hy : ys.length = 0
    · have hy' : ys = [] := List.eq_nil_of_length_eq_zero hy
      subst hy'
      obtain ⟨s2, e2⟩ := s1.newNil (.arr e sp [] w false em') ⟨none, 0, sp.sz, 0⟩ rfl ⟨rfl, rfl, o3, .inl ⟨rfl, rfl, c1 hp rfl⟩⟩
      refine ⟨_, .slice none 0 0, I, by simp [appTo], s2, Ex.trans hs s1 e1 e2, .all (l := ⟨none, 0, sp.sz, 0⟩) (by simp [Gam.up, GH.del]) ⟨rfl, rfl⟩⟩
    · obtain ⟨s2, e2, r2⟩ := app_new s1 (e := e) (ys := ys) (cs := cs) o3 hlen hrow w em' 0 (Nat.zero_le _) (fun _ => rfl) (fun _ h => hy (by rw [h]; rfl)) (unk + sp.sz) (.inl rfl) false
      refine ⟨_, _, _, ?_, s2, Ex.trans hs s1 e1 e2, r2⟩
      simp only [appTo, if_neg hy, evAppendTo]
      rw [if_pos (by simpa using hroom)]
  · unfold SlV at hv; rw [hp] at hv
    obtain ⟨cap, rfl, hcap⟩ := hv
    rw [o2, ← ht] at hcap
    obtain ⟨w1, w2, w3, w4⟩ := hfz rfl
    subst w2
    have hown : Own Γ H b := ⟨id, _, l, o, hg, rfl, hl, hp⟩
    have hno := hs.free hg rfl hl hp
    have hnp := hs.sep b hown
    have hblt := hs.own_lt hown
    have hrw : Row Pu I sp xs vs o := hrows
    have hpart : Row Pu I sp ((xs.drop off).take len) vs (o + off * sp.sz) := hrw.part off len
    have hol : o + off * sp.sz + len * sp.sz ≤ vs.length := by
      have : (off + len) * sp.sz ≤ xs.length * sp.sz := Nat.mul_le_mul_right _ hle
      rw [Nat.add_mul] at this; omega
    have hfl : f ≤ o + off * sp.sz + len * sp.sz := by
      rcases hw with h | h
      · have := w4 h; omega
      · rw [← h, Nat.add_mul] at w3; omega
    have adopt : ∀ (zs : List sp.ty) (io : List Value) (cap' : Nat), zs = (xs.drop off).take len ++ ys → io.length = vs.length → o + off * sp.sz + zs.length * sp.sz ≤ io.length → Row Pu I sp zs io (o + off * sp.sz) → (w = true → f ≤ o) → CapOK cap' sp.sz zs.length (o + off * sp.sz) vs.length →
        Sim P hint (Γ.up H.n ⟨some (b, o + off * sp.sz), zs.length, sp.sz, vs.length⟩) Pu ((H.del id).new (.arr e sp zs w false em')) (I.put b (.cells io e f ex false)) ∧
        Ex (Own Γ H) Γ Pu H I (Γ.up H.n ⟨some (b, o + off * sp.sz), zs.length, sp.sz, vs.length⟩) Pu ((H.del id).new (.arr e sp zs w false em')) (I.put b (.cells io e f ex false)) ∧
        GR (Γ.up H.n ⟨some (b, o + off * sp.sz), zs.length, sp.sz, vs.length⟩) Pu (I.put b (.cells io e f ex false)) (.all H.n) (.slice (some ⟨b, o + off * sp.sz, none⟩) zs.length cap') := by
      intro zs io cap' hz hio hzb hzr hww hc'
      have hzlen : zs.length = len + ys.length := by rw [hz, List.length_append, hzl]
      have hk : Keep Γ Pu I (Γ.up H.n ⟨some (b, o + off * sp.sz), zs.length, sp.sz, vs.length⟩) Pu (I.put b (.cells io e f ex false)) :=
        ⟨fun _ _ h => Gam.up_old hs h, fun _ h => h, fun b' hb' => by rw [IH.get_put, if_neg (by rintro rfl; exact hnp hb')]⟩
      obtain ⟨s2, e2⟩ := s1.adopt hno hnp hblt (.arr e sp zs w false em') (.cells io e f ex false) ⟨some (b, o + off * sp.sz), zs.length, sp.sz, vs.length⟩ (o + off * sp.sz) rfl
        ⟨rfl, rfl, o3, .inr ⟨b, o + off * sp.sz, io, f, ex, false, rfl, fun h => by
          have := c2 h (by rw [hp]; simp)
          intro hz0; rw [hz0] at hzlen; simp at hzlen; omega, by rw [IH.get_put, if_pos rfl], hio, hzb, fun i x hi => (hzr i x hi).mono hk.p hk.i, fun _ => ⟨w1, rfl, by rw [hzlen, Nat.add_mul]; omega, fun h => by have := hww h; omega⟩, fun h => by cases h⟩⟩
      refine ⟨s2, Ex.trans2 hs e1 e2 ?_, .all (l := ⟨some (b, o + off * sp.sz), zs.length, sp.sz, vs.length⟩) (by simp [Gam.up]) ?_⟩
      · intro b' hb' hh
        rcases hh with hh | hh
        · exact e1.own b' hb' hh
        · subst hh; exact hown
      · exact ⟨cap', by simp, by simpa using hc'⟩
    by_cases hy : ys.length = 0
    · have hy' : ys = [] := List.eq_nil_of_length_eq_zero hy
      subst hy'
      have hself : ∀ k, I.get k = (I.put b (.cells vs e f ex false)).get k := fun k => (IH.put_self_get I hgb k).symm
      obtain ⟨s2, e2, r2⟩ := adopt ((xs.drop off).take len ++ []) vs cap rfl rfl (by simp only [List.append_nil, hzl]; omega) (by simpa using hpart) w4 (by simpa only [List.append_nil, hzl] using hcap)
      refine ⟨_, .slice (some ⟨b, o + off * l.sz, none⟩) len cap, I, by simp [appTo], s2.congrI hself rfl, e2.congrI hself rfl, ?_⟩
      have r3 := r2.mono (Γ' := Γ.up H.n ⟨some (b, o + off * sp.sz), ((xs.drop off).take len ++ []).length, sp.sz, vs.length⟩) (Pu' := Pu) (I' := I) ⟨fun _ _ h => h, fun _ h => h, fun k _ => hself k⟩
      rw [List.append_nil, hzl] at r3
      rw [o2]
      simpa only [List.append_nil, hzl] using r3
    · rw [o2]
      simp only [appTo, if_neg hy, evAppendTo, if_pos hroom]
      rcases hcap with rfl | ⟨k1, k2, k3⟩
      · -- it grows
        rw [if_pos (Nat.le_add_right _ _), hgb]
        simp only
        rw [if_pos (by simp [w1, hol, hfl])]
        obtain ⟨s2, e2⟩ := s1.kill hno hnp
        have hkk : Keep Γ Pu I Γ Pu (I.del b) := ⟨fun _ _ h => h, fun _ h => h, fun b' hb' => by rw [IH.get_del, if_neg (by rintro rfl; exact hnp hb')]⟩
        have hcut : Row Pu I sp ((xs.drop off).take len) ((vs.drop (o + off * sp.sz)).take (len * sp.sz)) 0 := hpart.cut len (by omega)
        have hcl : ((vs.drop (o + off * sp.sz)).take (len * sp.sz)).length = ((xs.drop off).take len).length * sp.sz := by rw [hzl]; simp; omega
        have hall := hcut.app hrow hcl
        have hlen2 : ((vs.drop (o + off * sp.sz)).take (len * sp.sz) ++ cs).length = ((xs.drop off).take len ++ ys).length * sp.sz := by
          rw [List.length_append, List.length_append, hcl, hlen, Nat.add_mul]
        obtain ⟨s3, e3, r3⟩ := app_new s2 (e := e) (ys := (xs.drop off).take len ++ ys) (cs := (vs.drop (o + off * sp.sz)).take (len * sp.sz) ++ cs) o3 hlen2 (hall.mono hkk) w em' (f - (o + off * sp.sz)) (by rw [List.length_append, hzl, Nat.add_mul]; omega) (fun h => by have := w4 h; omega)
          (fun _ h => hy (by have := congrArg List.length h; rw [List.length_append] at this; simp only [List.length_nil] at this; omega)) (unk + sp.sz) (.inl rfl) false
        rw [List.length_append, hzl] at s3 e3 r3
        refine ⟨_, _, _, rfl, s3, ?_, r3⟩
        refine Ex.trans2 hs e1 (Ex.trans2 s1 e2 e3 (O2 := Own Γ (H.del id)) fun b' _ h => .inl h) ?_
        intro b' hb' hh
        rcases hh with hh | hh
        · exact e1.own b' hb' hh
        · subst hh; exact hown
      · rw [if_neg (Nat.not_le_of_lt k1)]
        by_cases hroomy : len + ys.length ≤ cap
        · -- in its place
          rw [if_pos hroomy]
          have hfit : o + off * sp.sz + len * sp.sz + cs.length ≤ vs.length := by
            have : (len + ys.length) * sp.sz ≤ cap * sp.sz := Nat.mul_le_mul_right _ hroomy
            rw [Nat.add_mul] at this; omega
          have hne : cs ≠ [] := by
            intro h0
            have h1 := Nat.mul_pos (Nat.pos_of_ne_zero hy) o3
            rw [← hlen, h0] at h1
            exact absurd h1 (by simp)
          rw [stCells_ok hgb w1 hfl hfit hones hne]
          have hrow2 : Row Pu I sp ((xs.drop off).take len ++ ys) (setRun vs (o + off * sp.sz + len * sp.sz) cs) (o + off * sp.sz) := by
            apply Row.ofAdd
            · intro i x hi
              have hil : i < len := by rw [← hzl]; exact (List.getElem?_eq_some_iff.1 hi).1
              rw [setRun_far]
              · exact hpart i x hi
              · left
                have : (i + 1) * sp.sz ≤ len * sp.sz := Nat.mul_le_mul_right _ hil
                rw [Nat.add_mul, Nat.one_mul] at this; omega
            · intro i x hi
              have hil : i < ys.length := (List.getElem?_eq_some_iff.1 hi).1
              rw [hzl, setRun_at _ _ _ _ _ (by
                rw [hlen]
                have : (i + 1) * sp.sz ≤ ys.length * sp.sz := Nat.mul_le_mul_right _ hil
                rw [Nat.add_mul, Nat.one_mul] at this; omega) hfit]
              have := hrow i x hi
              rwa [Nat.zero_add] at this
          obtain ⟨s2, e2, r2⟩ := adopt ((xs.drop off).take len ++ ys) (setRun vs (o + off * sp.sz + len * sp.sz) cs) cap rfl (setRun_length _ _ _) (by rw [List.length_append, hzl, setRun_length, Nat.add_mul]; omega) hrow2 w4 (.inr ⟨k1, by rw [List.length_append, hzl]; exact hroomy, k3⟩)
          rw [List.length_append, hzl] at r2 s2 e2
          exact ⟨_, _, _, rfl, s2, e2, r2⟩
        · -- it is copied
          rw [if_neg hroomy]
          have hca : I.cellsAt b (o + off * sp.sz) (len * sp.sz) = some ((vs.drop (o + off * sp.sz)).take (len * sp.sz)) := by
            unfold IH.cellsAt; rw [hgb]; simp only; rw [if_pos hol]
          rw [hca]
          have hcut : Row Pu I sp ((xs.drop off).take len) ((vs.drop (o + off * sp.sz)).take (len * sp.sz)) 0 := hpart.cut len (by omega)
          have hcl : ((vs.drop (o + off * sp.sz)).take (len * sp.sz)).length = ((xs.drop off).take len).length * sp.sz := by rw [hzl]; simp; omega
          have hall := hcut.app hrow hcl
          have hlen2 : ((vs.drop (o + off * sp.sz)).take (len * sp.sz) ++ cs).length = ((xs.drop off).take len ++ ys).length * sp.sz := by
            rw [List.length_append, List.length_append, hcl, hlen, Nat.add_mul]
          obtain ⟨s3, e3, r3⟩ := app_new s1 (e := e) (ys := (xs.drop off).take len ++ ys) (cs := (vs.drop (o + off * sp.sz)).take (len * sp.sz) ++ cs) o3 hlen2 hall w em' 0 (Nat.zero_le _) (fun _ => rfl)
            (fun _ h => hy (by have := congrArg List.length h; rw [List.length_append] at this; simp only [List.length_nil] at this; omega)) (unk + sp.sz) (.inl rfl) false
          rw [List.length_append, hzl] at s3 e3 r3
          exact ⟨_, _, _, rfl, s3, Ex.trans hs s1 e1 e3, r3⟩

theorem evAppend_eq {argTypes : Array TypeId} {t xt e : TypeId} {i : TypeInfo} {z : Value} {n : Nat} {s x : Value} {cs : List Value} (h0 : argTypes[0]? = some t) (h1 : argTypes[1]? = some xt) (h2 : isInt P xt = false) (h3 : elemSize P t = some (e, i)) (h4 : countOf x = some n) (h5 : zeroOf P e = some z)
    (h6 : sliceCells I i.size n x = some cs) (h7 : 0 < i.size) (h8 : z.cells.size = i.size) (h9 : cs.length = n * i.size) (h10 : cs.all Iv.one = true) : evAppend P I argTypes s x = appTo I e i.size i.bytes n cs s := by
  simp only [evAppend, h0, h1, h2, Bool.false_eq_true, if_false, h3, h4, h5, h6]
  rw [if_pos (by simp [h7, h8, h9]; simpa using h10)]
  rfl

theorem gAppend_ok {sh : ShT} (hs : Sim P hint Γ Pu H I) {argTypes : Array TypeId} {s x : TV} {s' x' : Value} (h : gAppend std P sh H argTypes s x K = some r) (hsr : GR Γ Pu I s s') (hxr : GR Γ Pu I x x') : Good P hint K r Γ Pu H I (resV (evAppend P I argTypes s' x')) := by
  unfold gAppend at h
  split at h
  · rename_i t xt h0 h1
    split at h
    · cases h
    · rename_i h2
      split at h
      · rename_i e i h3
        split at h
        · rename_i z sp h5 hsp
          replace h := bif_some h; obtain ⟨hb, h⟩ := h
          replace hb := Go.Gv.and_true hb; obtain ⟨hb, hb3⟩ := hb
          replace hb := Go.Gv.and_true hb; obtain ⟨hb1, hb2⟩ := hb
          have k1 := ble_true hb1
          have k2 := beq_true hb2
          have k3 := beq_true hb3
          split at h
          · rename_i ys hys
            obtain ⟨n, cs, p1, p2, p3, p4, p5, p6⟩ := elemsOf_ok hs hys hxr
            subst p2
            rw [k3] at p3 p4
            have hones := p5.ones (by rw [k3]; exact p4)
            rw [evAppend_eq h0 h1 (by simpa using h2) h3 p1 h5 p3 k1 k2 p4 hones]
            have p4' : cs.length = ys.length * sp.sz := by rw [k3]; exact p4
            split at h
            · -- onto nil
              cases hsr
              replace h := need_some h; obtain ⟨hr, h⟩ := h
              have hroom := ble_true hr
              by_cases hy : ys.length = 0
              · have hy' : ys = [] := List.eq_nil_of_length_eq_zero hy
                subst hy'
                obtain ⟨s2, e2⟩ := hs.newNil (.arr e sp [] true false true) ⟨none, 0, sp.sz, 0⟩ rfl ⟨rfl, rfl, by omega, .inl ⟨rfl, rfl, rfl⟩⟩
                simp only [appTo, List.length_nil, if_true, resV]
                exact ⟨_, _, _, _, _, _, h, rfl, .all (l := ⟨none, 0, sp.sz, 0⟩) (by simp [Gam.up]) ⟨rfl, rfl⟩, s2, e2⟩
              · obtain ⟨s2, e2, r2⟩ := app_new hs (e := e) (ys := ys) (cs := cs) (by omega) p4' p5 true true 0 (Nat.zero_le _) (fun _ => rfl) (fun _ h => hy (by rw [h]; rfl)) (unk + sp.sz) (.inl rfl) false
                simp only [appTo, if_neg hy, evAppendTo, if_pos hroom, resV]
                rw [← k3]
                exact ⟨_, _, _, _, _, _, h, rfl, r2, s2, e2⟩
            · -- onto a list without room
              rename_i e' nl
              replace h := need_some h; obtain ⟨hr, h⟩ := h
              have hroom := ble_true hr
              have hsr0 := hsr
              cases hsr with | lst he hn hc =>
              obtain ⟨hc1, hc2⟩ := hc rfl
              unfold Enc at he
              rcases he with ⟨_, he⟩ | ⟨b, off, cap, vs, et, fz, ex, sd, he, hb, hg, hcc, hl, hxs⟩
              · cases he; cases hc2
              · cases he
                have : cap = 0 := hc1
                subst this
                rcases sel_some h with ⟨hz, h⟩ | ⟨hz, h⟩
                · have hy' : ys = [] := by simpa using hz
                  subst hy'
                  simp only [appTo, List.length_nil, if_true, resV]
                  exact Good.same hs h hsr0
                · have hy : ys.length ≠ 0 := fun h0 => by
                    rw [List.eq_nil_of_length_eq_zero h0] at hz; cases hz
                  obtain ⟨s2, e2, r2⟩ := app_new hs (e := e) (ys := ys) (cs := cs) (by omega) p4' p5 true false 0 (Nat.zero_le _) (fun _ => rfl) (fun h => by cases h) (unk + sp.sz) (.inl rfl) false
                  have hca : I.cellsAt b off 0 = some [] := by
                    unfold IH.cellsAt; rw [hg]; simp only; rw [if_pos (by omega)]; rfl
                  have : appTo I e i.size i.bytes ys.length cs (.slice (some ⟨b, off, none⟩) 0 0) = some (.val (.slice (some ⟨I.n, 0, none⟩) ys.length (unk + i.size)) (I.new (.cells cs e 0 false false))) := by
                    simp only [appTo, if_neg hy, evAppendTo, Nat.zero_add, if_pos hroom]
                    rw [if_neg (by unfold unk; exact Nat.not_le_of_lt (Nat.two_pow_pos 64)), if_neg (by omega), Nat.zero_mul, hca]
                    rfl
                  simp only [List.length_nil, this, resV]
                  rw [← k3]
                  exact ⟨_, _, _, _, _, _, h, rfl, r2, s2, e2⟩
            · -- onto a named list
              rename_i id
              split at h
              · rename_i et e' xs w em hg
                replace h := bif_some h; obtain ⟨hbe, h⟩ := h
                have := beq_true hbe
                subst this
                split at h
                · rename_i hh _
                  subst hh
                  replace h := need_some h; obtain ⟨hr, h⟩ := h
                  cases hsr with | all hl hv =>
                  obtain ⟨l', hl', ho⟩ := hs.obj _ _ hg
                  cases hl.symm.trans hl'
                  rw [ho.1] at hv
                  obtain ⟨Γ1, v', I1, q1, q2, q3, q4⟩ := app_core hs (ys := ys) (em' := em) hg hl hv (by omega) (.inr (by omega)) rfl p4' p5 (ble_true hr)
                    (fun hp _ => by
                      obtain ⟨_, _, _, ⟨_, _, h3⟩ | ⟨b, o, vs, f, ex, sd, hp2, _⟩⟩ := ho
                      · exact h3
                      · rw [hp] at hp2; cases hp2)
                    (fun hem hp => by
                      obtain ⟨_, _, _, ⟨h3, _⟩ | ⟨b, o, vs, f, ex, sd, hp2, hne, _⟩⟩ := ho
                      · exact absurd h3 hp
                      · intro h0
                        have := hne hem
                        exact this (List.eq_nil_of_length_eq_zero (by omega)))
                  rw [k3] at q1
                  simp only [List.drop_zero, List.take_length] at q2 q3
                  rw [q1]
                  exact ⟨_, _, _, _, _, _, h, rfl, q4, q2, q3⟩
                · cases h
              · cases h
            · rename_i id off len
              split at h
              · rename_i et e' xs em hg
                replace h := bif_some h; obtain ⟨hbe, h⟩ := h
                have := beq_true hbe
                subst this
                split at h
                · rename_i hh _
                  subst hh
                  replace h := need_some h; obtain ⟨hr, h⟩ := h
                  replace hr := Go.Gv.and_true hr; obtain ⟨hr, hr2⟩ := hr
                  cases hsr with | own hl hle hv =>
                  obtain ⟨l', hl', ho⟩ := hs.obj _ _ hg
                  cases hl.symm.trans hl'
                  rw [ho.1] at hle
                  obtain ⟨Γ1, v', I1, q1, q2, q3, q4⟩ := app_core hs (ys := ys) (em' := false) hg hl hv hle (.inl rfl) rfl p4' p5 (ble_true hr)
                    (fun hp hy => by
                      exfalso
                      obtain ⟨_, _, _, ⟨_, h2, h3⟩ | ⟨b, o, vs, f, ex, sd, hp2, _⟩⟩ := ho
                      · subst h2 h3 hy
                        have : len = 0 := by simp at hle; omega
                        subst this
                        simp at hr2
                      · rw [hp] at hp2; cases hp2)
                    (fun h => by cases h)
                  rw [k3] at q1
                  rw [q1]
                  exact ⟨_, _, _, _, _, _, h, rfl, q4, q2, q3⟩
                · cases h
              · cases h
            · cases h
          · cases h
        · cases h
      · cases h
  · cases h
end
end Go.Gv
