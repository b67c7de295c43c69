/- The pure evaluator's operations are the ideal one's (the fourth part): lists, texts. -/
import Derived.Test.YtoiiimbhfdnomaaDoorGvOpsC
namespace Go.Gv
open Go Go.Iv

section
variable {β : Type} {P : Program} {hint : Hint} {Γ Γ1 : Gam} {Pu Pu1 : Nat → Prop} {H H1 : GH} {I I1 : IH} {K : TV → GH → Option β} {r : β}

/-- A new block that is at rest. -/
theorem Sim.newPure (hs : Sim P hint Γ Pu H I) (cs : List Value) (et : TypeId) (fz : Nat) (ex sd : Bool) :
    Sim P hint Γ (fun b => Pu b ∨ b = I.n) H (I.new (.cells cs et fz ex sd)) ∧ Ex (Own Γ H) Γ Pu H I Γ (fun b => Pu b ∨ b = I.n) H (I.new (.cells cs et fz ex sd)) := by
  have getold : ∀ b, b < I.n → (I.new (.cells cs et fz ex sd)).get b = I.get b := fun b hb => by rw [IH.get_new, if_neg (Nat.ne_of_lt hb)]
  have hk : Keep Γ Pu I Γ (fun b => Pu b ∨ b = I.n) (I.new (.cells cs et fz ex sd)) := ⟨fun _ _ h => h, fun _ h => .inl h, fun b hb => getold b (hs.pu_lt hb)⟩
  refine ⟨⟨?_, hs.inj, ?_, hs.dom, ?_, ?_, Nat.le_succ_of_le hs.ro, hs.gn, hs.glob, hs.st⟩, ⟨fun _ _ h => h, Nat.le_refl _, Nat.le_succ _, fun _ h => .inl h, fun b hb _ => getold b hb, fun b _ h => h, ?_, Nat.le_refl _, fun _ _ => .inr (.inl rfl), ?_⟩⟩
  · intro id o hg
    obtain ⟨l, hl, _⟩ := hs.obj id o hg
    exact ⟨l, hl, hs.obj_keep hk hg hl fun hm b x hp => getold b (hs.own_lt ⟨id, o, l, x, hg, hm, hl, hp⟩)⟩
  · intro b hb hpu
    rcases hpu with h | h
    · exact hs.sep b hb h
    · have := hs.own_lt hb; omega
  · intro b hb
    have hb' : I.n + 1 ≤ b := hb
    rw [IH.get_new, if_neg (by omega)]; exact hs.fresh b (by omega)
  · intro b hb
    rcases hb with h | h
    · obtain ⟨cs, et, fz, ex, sd, hg⟩ := hs.pu b h
      exact ⟨cs, et, fz, ex, sd, (getold b (hs.lt hg)).trans hg⟩
    · subst h; exact ⟨cs, et, fz, ex, sd, by rw [IH.get_new, if_pos rfl]⟩
  · intro b hb h
    rcases h with h | h
    · exact .inl h
    · omega
  · intro id l b x s h1 _ hl hp
    obtain ⟨o, hg⟩ := GH.stamp_get h1
    cases hm : o.mut with
    | true => exact getold b (hs.own_lt ⟨id, o, l, x, hg, hm, hl, hp⟩)
    | false =>
      obtain ⟨l', hl', ho⟩ := hs.obj id o hg
      cases hl.symm.trans hl'
      cases o with
      | cells et cs w => obtain ⟨b2, vs, fz, ex, sd, hp2, hg2, hr, hw, hu⟩ := ho; cases hp.symm.trans hp2; exact getold b (hs.lt hg2)
      | arr et e xs w fz em =>
        obtain ⟨_, _, _, h4 | ⟨b2, o, vs, f, ex, sd, hp2, he, hg2, _⟩⟩ := ho
        · rw [h4.1] at hp; cases hp
        · cases hp.symm.trans hp2; exact getold b (hs.lt hg2)
      | iter s pos => cases hm
      | loop fid st pd fi E ps asg body => cases hm

/-! ### What a list's elements are -/
theorem Row.byte : ∀ {xs : List UInt8} {vs : List Value}, Row Pu I .byte xs vs 0 → vs.length = xs.length → vs = xs.map fun c => .int .u8 c.toNat := by
  intro xs
  induction xs with
  | nil => intro vs _ h; exact List.eq_nil_of_length_eq_zero h
  | cons c xs ih =>
    intro vs hr hl
    cases vs with
    | nil => cases hl
    | cons v vs =>
      have h0 : Enc Pu I .byte c _ := hr 0 c rfl
      simp only [Sh.sz, Nat.zero_mul, Nat.add_zero, List.drop_zero] at h0
      unfold Enc at h0
      simp at h0
      subst h0
      rw [List.map_cons, ← ih (vs := vs)]
      · intro i x hi
        have := hr (i + 1) x hi
        simp only [Sh.sz, Nat.mul_one, Nat.zero_add, List.drop_succ_cons] at this ⊢
        exact this
      · simpa using hl

theorem row_bytes {s : List UInt8} : Row Pu I .byte s (s.map fun c => (.int .u8 c.toNat : Value)) 0 := by
  intro i x hi
  simp only [Sh.sz, Nat.mul_one, Nat.zero_add]
  unfold Enc
  rw [← List.map_drop, ← List.map_take]
  have : (s.drop i).take 1 = [x] := by
    rw [List.getElem?_eq_some_iff] at hi
    obtain ⟨h1, h2⟩ := hi
    rw [List.drop_eq_getElem_cons h1, h2]; rfl
  rw [this]; rfl

/-- What stands where a list lies. -/
structure Lies (Pu : Nat → Prop) (I : IH) (e : Sh) (xs : List e.ty) (v : Value) : Prop where
  len : ∃ a c, v = .slice a xs.length c
  cells : ∃ cs, sliceCells I e.sz xs.length v = some cs ∧ cs.length = xs.length * e.sz ∧ Row Pu I e xs cs 0

theorem lies_of {e : Sh} {xs : List e.ty} {b off cap : Nat} {vs : List Value} {et : TypeId} {fz : Nat} {ex sd : Bool} (hg : I.get b = some (.cells vs et fz ex sd)) (hl : off + xs.length * e.sz ≤ vs.length) (hr : Row Pu I e xs vs off) :
    Lies Pu I e xs (.slice (some ⟨b, off, none⟩) xs.length cap) :=
  ⟨⟨_, _, rfl⟩, (vs.drop off).take (xs.length * e.sz), by simp only [sliceCells, IH.cellsAt, hg, if_pos hl], by simp; omega, hr.cut _ (Nat.le_refl _)⟩

theorem lies_nil {e : Sh} : Lies Pu I e ([] : List e.ty) (.slice none 0 0) :=
  ⟨⟨_, _, rfl⟩, [], rfl, by simp, fun i x h => by cases h⟩

theorem Enc.lies {e : Sh} {xs : List e.ty} {v : Value} (h : Enc Pu I (.slc e) xs [v]) : Lies Pu I e xs v := by
  unfold Enc at h
  rcases h with ⟨rfl, h⟩ | ⟨b, off, cap, cs, et, fz, ex, sd, h, hb, hg, hc, hl, hx⟩
  · cases h; exact lies_nil
  · cases h; exact lies_of hg hl hx

theorem OR.lies {l : Loc} {et : TypeId} {e : Sh} {xs : List e.ty} {w fz em : Bool} (ho : OR P hint Γ Pu I l (.arr et e xs w fz em)) {off len : Nat} (hle : off + len ≤ xs.length) {v : Value} (hv : SlV l off len v) : Lies Pu I e ((xs.drop off).take len) v := by
  obtain ⟨h1, h2, h3, ⟨hp, hx, _⟩ | ⟨b, o, vs, f, ex, sd, hp, he, hg2, ht, hlen, hx, _, _⟩⟩ := ho
  · unfold SlV at hv; rw [hp] at hv
    obtain ⟨rfl, rfl⟩ := hv
    rw [List.take_zero]; exact lies_nil
  · unfold SlV at hv; rw [hp] at hv
    obtain ⟨cap, rfl, hc⟩ := hv
    have hlen' : ((xs.drop off).take len).length = len := by simp; omega
    have hr : Row Pu I e xs vs o := hx
    have := lies_of (cap := cap) hg2 (off := o + off * e.sz) (xs := (xs.drop off).take len) (by
      rw [hlen']
      have : (off + len) * e.sz ≤ xs.length * e.sz := Nat.mul_le_mul_right _ hle
      rw [Nat.add_mul] at this; omega) (hr.part off len)
    rw [hlen'] at this
    rw [h2]; exact this

theorem castL_length {a b : Sh} (h : a = b) (xs : List a.ty) : (castL h xs).length = xs.length := by subst h; rfl

/-- Elements of what may be spread. -/
inductive Spread (Pu : Nat → Prop) (I : IH) (s : Sh) (ys : List s.ty) (v : Value) : Prop
  | mk (n : Nat) (cs : List Value) : countOf v = some n → n = ys.length → sliceCells I s.sz n v = some cs → cs.length = ys.length * s.sz → Row Pu I s ys cs 0 → ((∃ a c, v = .slice a n c) ∨ ∃ t, v = .string t) → Spread Pu I s ys v

theorem Lies.spread {e : Sh} {xs : List e.ty} {v : Value} (h : Lies Pu I e xs v) : Spread Pu I e xs v := by
  obtain ⟨⟨a, c, rfl⟩, cs, h1, h2, h3⟩ := h
  exact .mk xs.length cs rfl rfl h1 h2 h3 (.inl ⟨a, c, rfl⟩)

theorem elemsOf_ok (hs : Sim P hint Γ Pu H I) {s : Sh} {x : TV} {x' : Value} {ys : List s.ty} (h : elemsOf H s x = some ys) (hx : GR Γ Pu I x x') : Spread Pu I s ys x' := by
  unfold elemsOf at h
  split at h
  · cases h; cases hx; exact lies_nil.spread
  · split at h
    · rename_i hh _; subst hh; cases h; cases hx with | lst he _ _ => exact he.lies.spread
    · cases h
  · split at h
    · rename_i et e xs w fz em hg
      split at h
      · rename_i hh _; subst hh; cases h
        cases hx with | all hl hv =>
        obtain ⟨l', hl', ho⟩ := hs.obj _ _ hg
        cases hl.symm.trans hl'
        have h1 := ho.1
        rw [h1] at hv
        have := ho.lies (off := 0) (len := xs.length) (by omega) hv
        simp only [List.drop_zero, List.take_length] at this
        exact this.spread
      · cases h
    · cases h
  · split at h
    · rename_i et e xs w fz em hg
      split at h
      · rename_i hh _; subst hh; cases h
        cases hx with | own hl hle hv =>
        obtain ⟨l', hl', ho⟩ := hs.obj _ _ hg
        cases hl.symm.trans hl'
        rw [ho.1] at hle
        exact (ho.lies hle hv).spread
      · cases h
    · cases h
  · split at h
    · rename_i t _ hh _; subst hh; cases h; cases hx
      exact .mk t.length (t.map fun c => .int .u8 c.toNat) rfl rfl (by simp [sliceCells, bl_ba]) (by simp [Sh.sz]; rfl) row_bytes (.inr ⟨_, rfl⟩)
    · cases h
  · cases h

theorem ba_bl (s : ByteArray) : ba (bl s) = s := rfl
theorem GR.strOf (s : ByteArray) : GR Γ Pu I (.str (bl s)) (.string s) := GR.str (bl s)

theorem bytesOf_map : ∀ s : List UInt8, bytesOf (s.map fun c => (.int .u8 c.toNat : Value)) = some s := by
  intro s
  induction s with
  | nil => rfl
  | cons c s ih =>
    have h1 : Iv.byteOf (.int .u8 (c.toNat : Int)) = some c := by simp [Iv.byteOf]
    simp only [List.map_cons, bytesOf, h1, ih]

/-! ### Conversions -/
theorem gToString_ok (hs : Sim P hint Γ Pu H I) {e : TypeId} {x : TV} {x' : Value} (h : gToString P H e x K = some r) (hx : GR Γ Pu I x x') (hn : ∀ s, x ≠ .str s) : Good P hint K r Γ Pu H I (resV (evToString P I e x')) := by
  unfold gToString at h
  split at h
  · rename_i hu
    split at h
    · rename_i s hse
      obtain ⟨n, cs, h1, h2, h3, h4, h5, h6⟩ := elemsOf_ok hs hse hx
      rcases h6 with ⟨a, c, rfl⟩ | ⟨t, rfl⟩
      · subst h2
        have hcs := h5.byte (by simpa [Sh.sz] using h4)
        cases a with
        | none =>
          have : s = [] := by
            cases hl : s.length with
            | zero => exact List.eq_nil_of_length_eq_zero hl
            | succ k => rw [hl] at h3; cases c <;> cases h3
          subst this
          simp only [evToString, hu, resV]
          exact Good.same hs h (.str [])
        | some a =>
          obtain ⟨b, off, p⟩ := a
          cases p with
          | some _ => cases h3
          | none =>
            simp only [sliceCells, Sh.sz, Nat.mul_one] at h3
            by_cases hz : s.length = 0
            · have : s = [] := List.eq_nil_of_length_eq_zero hz
              subst this
              simp only [evToString, hu, List.length_nil, if_true, resV]
              exact Good.same hs h (.str [])
            · simp only [evToString, hu, if_neg hz, h3, hcs, bytesOf_map, resV]
              exact Good.same hs h (.str s)
      · cases hx with
        | str s => exact absurd rfl (hn s)
        | raw v => simp [elemsOf] at hse
        | undef v => simp [elemsOf] at hse
        | lst he _ _ => obtain ⟨⟨_, _, hh⟩, _⟩ := he.lies; cases hh
        | all _ hv => obtain ⟨_, _, hh, _⟩ := hv.some; cases hh
        | own _ _ hv => obtain ⟨_, _, hh, _⟩ := hv.some; cases hh
    · cases h
  · cases h

theorem gConvert_ok (hs : Sim P hint Γ Pu H I) {src dst : TypeId} {x : TV} {x' : Value} (h : gConvert P H src dst x K = some r) (hx : GR Γ Pu I x x') : Good P hint K r Γ Pu H I (resV (evConvert P I src dst x')) := by
  unfold gConvert at h
  split at h
  · rename_i ks k hu hv
    split at h
    · cases hx
      rename_i k0 n
      by_cases hk : k = .u8
      · subst hk
        simp only [cond_true] at h
        simp only [evConvert, hu, hv, resV]
        have := GR.byte (Γ := Γ) (Pu := Pu) (I := I) (UInt8.ofNat (IntKind.u8.wrap n).toNat)
        rw [byte_of] at this
        exact Good.same hs h this
      · have h' : K (wr k n) H = some r := by cases k <;> first | exact absurd rfl hk | exact h
        simp only [evConvert, hu, hv, resV]
        exact Good.same hs h' (.int _ _)
    · cases hx
      rename_i c
      by_cases hk : k = .u8
      · subst hk
        simp only [cond_true] at h
        simp only [evConvert, hu, hv, resV, byte_wrap]
        exact Good.same hs h (.byte _)
      · have h' : K (wr k c.toNat) H = some r := by cases k <;> first | exact absurd rfl hk | exact h
        simp only [evConvert, hu, hv, resV]
        exact Good.same hs h' (.int _ _)
    · cases h
  · rename_i ks hu hv
    split at h
    · cases hx
      simp only [evConvert, hu, hv, resV]
      exact Good.same hs h (.strOf _)
    · cases hx
      simp only [evConvert, hu, hv, resV]
      exact Good.same hs h (.strOf _)
    · cases h
  · rename_i hu hv
    split at h
    · cases hx
      simp only [evConvert, hu, hv, resV]
      exact Good.same hs h (.str _)
    · cases h
  · rename_i e hu hv
    split at h
    · rename_i s hue
      cases hx
      simp only [evConvert, hu, hv, evToBytes, hue, resV]
      obtain ⟨s1, e1⟩ := hs.newPure ((bl (ba s)).map fun c => .int .u8 c.toNat) e 0 false true
      refine ⟨_, _, _, _, _, _, h, rfl, .lst ?_ (fun c hc => by cases hc; rfl) (fun hc => by cases hc), s1, e1⟩
      refine .inr ⟨I.n, 0, unk + 1, _, e, 0, false, true, rfl, .inr rfl, by rw [IH.get_new, if_pos rfl], .inl (by simp only [Sh.sz]), ?_, ?_⟩
      · simp [Sh.sz, bl_ba]
      · exact row_bytes
    · cases h
  · rename_i e hu hv
    split at h
    · cases h
    · rename_i hn
      simp only [evConvert, hu, hv]
      exact gToString_ok hs h hx fun s he => hn s he
  · rename_i t hu hv
    split at h
    · rename_i id off
      cases hx with | ptr hl hp =>
      split at h
      · rename_i et cs w hg
        replace h := bif_some h; obtain ⟨hb, h⟩ := h
        replace hb := Go.Gv.and_true hb; obtain ⟨hb1, hb2⟩ := hb
        obtain ⟨l', hl', ho⟩ := hs.obj _ _ hg
        cases hl.symm.trans hl'
        obtain ⟨b', vs, fz, ex, sd, hp', hgb, hr, _⟩ := ho
        cases hp.symm.trans hp'
        have h1 : P.cellsOf t ≠ 0 := fun e => by rw [e] at hb1; cases hb1
        have h2 : off < vs.length := by rw [hr.length]; exact blt_true hb2
        have hc : (P.cellsOf t != 0 && decide (off < vs.length)) = true := by simp [h1, h2]
        simp only [evConvert, hu, hv, evToUnsafe, hgb, hc, if_true, resV]
        exact Good.same hs h (.ptr hl hp)
      · cases h
    · cases hx
      simp only [evConvert, hu, hv, evToUnsafe, resV]
      exact Good.same hs h (.raw _)
    · cases h
  · rename_i u hu hv
    split at h
    · rename_i id off
      cases hx with | ptr hl hp =>
      split at h
      · rename_i et cs hg
        replace h := bif_some h; obtain ⟨hb, h⟩ := h
        replace hb := Go.Gv.and_true hb; obtain ⟨hb1, hb2⟩ := hb
        obtain ⟨l', hl', ho⟩ := hs.obj _ _ hg
        cases hl.symm.trans hl'
        obtain ⟨b', vs, fz, ex, sd, hp', hgb, hr, hw, _⟩ := ho
        cases hp.symm.trans hp'
        have h1 : P.cellsOf u ≠ 0 := fun e => by rw [e] at hb1; cases hb1
        obtain ⟨_, _, w3, _⟩ := hw rfl
        subst w3
        rw [← hr.length] at hb2
        have hc : (P.cellsOf u != 0 && liesAt P P.depth et (vs.length / P.cellsOf et) off u 1) = true := by simp [h1, hb2]
        simp only [evConvert, hu, hv, evFromUnsafe, hgb, hc, if_true, resV]
        exact Good.same hs h (.ptr hl hp)
      · cases h
    · cases hx
      simp only [evConvert, hu, hv, evFromUnsafe, resV]
      exact Good.same hs h (.raw _)
    · cases h
  · cases h
end
end Go.Gv
