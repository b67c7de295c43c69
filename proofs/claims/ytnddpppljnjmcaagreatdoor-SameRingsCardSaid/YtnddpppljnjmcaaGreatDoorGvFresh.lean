/- A new object in a block that was kept for it: what stands in a region that draws its order. -/
import Derived.Test.YtnddpppljnjmcaaGreatDoorGvRun
import Derived.Test.YtnddpppljnjmcaaGreatDoorIvPureX
set_option linter.unusedSimpArgs false
set_option linter.unusedVariables false
namespace Go.Gv
open Go Go.Iv
section
variable {β : Type} {P : Program} {hint : Hint} {sh : ShT} {Γ Γ1 : Gam} {Pu Pu1 : Nat → Prop} {H H1 : GH} {I I1 I2 : IH} {r : β} {K : TV → GH → Option β}
theorem Ex.wk {O O' : Nat → Prop} (h : Ex O Γ Pu H I Γ1 Pu1 H1 I1) (ho : ∀ b, O b → O' b) : Ex O' Γ Pu H I Γ1 Pu1 H1 I1 :=
  ⟨h.g, h.hn, h.n, h.p, fun b hb hn => h.keep b hb fun x => hn (ho b x), fun b hb x => ho b (h.own b hb x), fun b hb x => (h.pn b hb x).imp id (ho b), h.ck, h.stm, h.hist⟩
theorem Sim.own_some (h : Sim P hint sh Γ Pu H I) {b : Nat} (hb : Own Γ H b) : ∃ o, I.get b = some o := by
  obtain ⟨id, o, l, x, hg, hm, hl, hp⟩ := hb
  obtain ⟨l', hl', ho⟩ := h.obj id o hg
  cases hl.symm.trans hl'
  cases o with
  | cells et cs w => obtain ⟨b', vs, fz, ex, sd, hp', hb', _⟩ := ho; cases hp.symm.trans hp'; exact ⟨_, hb'⟩
  | arr et e xs w fz em =>
    obtain ⟨_, _, _, h1 | ⟨b', o, vs, f, ex, sd, hp', _, hb', _⟩⟩ := ho
    · rw [h1.1] at hp; cases hp
    · cases hp.symm.trans hp'; exact ⟨_, hb'⟩
  | iter s pos => obtain ⟨b', hp', _, hb'⟩ := ho; cases hp.symm.trans hp'; exact ⟨_, hb'⟩
  | map kt gk ge k e xs em =>
    obtain ⟨_, ⟨h1, _⟩ | ⟨b', es, ck, hp', _, _, hb', _⟩⟩ := ho
    · rw [h1] at hp; cases hp
    · cases hp.symm.trans hp'; exact ⟨_, hb'⟩
  | loop fid st pd fi E ps asg body => obtain ⟨b', E', hp', _, hb', _⟩ := ho; cases hp.symm.trans hp'; exact ⟨_, hb'⟩
theorem keep_at (hs : Sim P hint sh Γ Pu H I) {k : Nat} (hk0 : I.get k = none) (l0 : Loc) (io : IObj) : Keep Γ Pu I (Γ.up H.n l0) Pu (I.put k io) :=
  ⟨fun _ _ h => Gam.up_old hs h, fun _ h => h, fun b hb => by
    rw [IH.get_put, if_neg]
    rintro rfl
    obtain ⟨cs, et, fz, ex, sd, hg⟩ := hs.pu b hb
    rw [hk0] at hg; cases hg⟩
theorem Sim.newAt (hs : Sim P hint sh Γ Pu H I) {k : Nat} (hk0 : I.get k = none) (hkn : k < I.n) (o : GObj) (io : IObj) (l : Loc) (x : Nat) (hp : l.pos = some (k, x)) (ho : OR P hint (Γ.up H.n l) Pu (I.put k io) l o) :
    Sim P hint sh (Γ.up H.n l) Pu (H.new o) (I.put k io) ∧ Ex (fun b => Own Γ H b ∨ b = k) Γ Pu H I (Γ.up H.n l) Pu (H.new o) (I.put k io) := by
  have hk := keep_at hs hk0 l io
  have upn : Γ.up H.n l H.n = some l := by simp [Gam.up]
  have ownI : ∀ b, Own (Γ.up H.n l) (H.new o) b → Own Γ H b ∨ b = k := by
    rintro b ⟨id, o', l', x', hg, hm', hl', hp'⟩
    rw [GH.get_new] at hg
    split at hg
    · rename_i h; subst h; rw [upn] at hl'; cases hl'; rw [hp] at hp'; cases hp'; exact .inr rfl
    · rename_i h; unfold Gam.up at hl'; rw [if_neg h] at hl'; exact .inl ⟨id, o', l', x', hg, hm', hl', hp'⟩
  have getold : ∀ b, b ≠ k → (I.put k io).get b = I.get b := fun b hb => by rw [IH.get_put, if_neg hb]
  have ownne : ∀ b, Own Γ H b → b ≠ k := fun b hb e => by
    obtain ⟨o, ho⟩ := hs.own_some hb
    rw [e, hk0] at ho; cases ho
  refine ⟨⟨?_, ?_, ?_, ?_, ?_, ?_, ?_, ?_, ?_, ?_, hs.tabK hk.p hk.i⟩, ⟨fun _ _ h => Gam.up_old hs h, Nat.le_succ _, Nat.le_refl _, fun _ h => h, fun b _ hb => getold b fun e => hb (.inr e), fun b _ h => ownI b h, fun b _ h => .inl h, Nat.le_succ _, ?_, ?_⟩⟩
  · intro id o' hg
    rw [GH.get_new] at hg
    split at hg
    · rename_i h; subst h; cases hg; exact ⟨l, upn, ho⟩
    · obtain ⟨l', hl', _⟩ := hs.obj id o' hg
      refine ⟨l', Gam.up_old hs hl', hs.obj_keep hk hg hl' fun hm' b x' hp' => getold b (ownne b ⟨id, o', l', x', hg, hm', hl', hp'⟩)⟩
  · intro id id' o1 o2 l1 l2 b x1 x2 hg hg' hm1 hm2 hl1 hl2 hp1 hp2
    rw [GH.get_new] at hg hg'
    unfold Gam.up at hl1 hl2
    split at hg <;> split at hg'
    · rename_i h h'; rw [h, h']
    · rename_i h h'
      rw [if_pos h] at hl1; rw [if_neg h'] at hl2; cases hl1; rw [hp] at hp1; cases hp1
      exact absurd rfl (ownne _ ⟨id', o2, l2, x2, hg', hm2, hl2, hp2⟩)
    · rename_i h h'
      rw [if_neg h] at hl1; rw [if_pos h'] at hl2; cases hl2; rw [hp] at hp2; cases hp2
      exact absurd rfl (ownne _ ⟨id, o1, l1, x1, hg, hm1, hl1, hp1⟩)
    · rename_i h h'
      rw [if_neg h] at hl1; rw [if_neg h'] at hl2
      exact hs.inj id id' o1 o2 l1 l2 b x1 x2 hg hg' hm1 hm2 hl1 hl2 hp1 hp2
  · intro b hb hpu
    rcases ownI b hb with h | h
    · exact hs.sep b h hpu
    · obtain ⟨cs, et, fz, ex, sd, hg⟩ := hs.pu b hpu
      rw [h, hk0] at hg; cases hg
  · intro id l' h
    unfold Gam.up at h
    show id < H.n + 1
    split at h
    · omega
    · have := hs.dom id l' h; omega
  · intro b hb
    have hb' : I.n ≤ b := hb
    rw [getold b (by omega)]; exact hs.fresh b hb'
  · intro b hb
    obtain ⟨cs, et, fz, ex, sd, hg⟩ := hs.pu b hb
    exact ⟨cs, et, fz, ex, sd, (hk.i b hb).trans hg⟩
  · exact hs.ro
  · exact Nat.le_succ_of_le hs.gn
  · intro g hg
    obtain ⟨l', h1, h2⟩ := hs.glob g hg
    exact ⟨l', Gam.up_old hs h1, h2⟩
  · intro id s h
    rw [GH.stamp_new] at h
    show s < H.ck + 1
    split at h
    · cases h; omega
    · have := hs.st id s h; omega
  · intro id hid
    rw [GH.stamp_new, if_neg (by omega)]; exact .inr (.inl rfl)
  · intro id l' b x' s h1 h2 hl' hp'
    obtain ⟨o', hg⟩ := GH.stamp_get h1
    obtain ⟨l2, hl2, ho2⟩ := hs.obj id o' hg
    cases hl'.symm.trans hl2
    cases hm' : o'.mut with
    | true => exact getold b (ownne b ⟨id, o', l', x', hg, hm', hl', hp'⟩)
    | false =>
      cases o' with
      | cells et cs w => obtain ⟨b', vs, fz, ex, sd, hp2, hg2, hr, hw, hu⟩ := ho2; cases hp'.symm.trans hp2; exact hk.i b (hu hm')
      | arr et e xs w fz em =>
        obtain ⟨_, _, _, h4 | ⟨b', o, vs, f, ex, sd, hp2, he, hg2, ht, hl, hx, hw, hu⟩⟩ := ho2
        · rw [h4.1] at hp'; cases hp'
        · cases hp'.symm.trans hp2; exact hk.i b (hu (by simpa [GObj.mut] using hm'))
      | iter s pos => cases hm'
      | map kt gk ge k e xs em => cases hm'
      | loop fid st pd fi E ps asg body => cases hm'
theorem app_newAt (hs : Sim P hint sh Γ Pu H I) {k : Nat} (hk0 : I.get k = none) (hkn : k < I.n) (hkr : roN ≤ k) {e : TypeId} {sp : Sh} {ys : List sp.ty} {cs : List Value} (hsz : 0 < sp.sz) (hlen : cs.length = ys.length * sp.sz) (hrow : Row Pu I sp ys cs 0) (w : Bool) (em : Em) (f : Nat) (hf : f ≤ ys.length * sp.sz) (hfw : w = true → f = 0) (hem : em = .ex → ys ≠ []) (cap : Nat) (hcap : CapOK cap sp.sz ys.length 0 cs.length) (ex : Bool) :
    Sim P hint sh (Γ.up H.n ⟨some (k, 0), ys.length, sp.sz, cs.length⟩) Pu (H.new (.arr e sp ys w false em)) (I.put k (.cells cs e f ex false)) ∧
      Ex (fun b => Own Γ H b ∨ b = k) Γ Pu H I (Γ.up H.n ⟨some (k, 0), ys.length, sp.sz, cs.length⟩) Pu (H.new (.arr e sp ys w false em)) (I.put k (.cells cs e f ex false)) ∧
      GR (Γ.up H.n ⟨some (k, 0), ys.length, sp.sz, cs.length⟩) Pu (I.put k (.cells cs e f ex false)) (.all H.n) (.slice (some ⟨k, 0, none⟩) ys.length cap) := by
  have hk := keep_at hs hk0 ⟨some (k, 0), ys.length, sp.sz, cs.length⟩ (.cells cs e f ex false)
  obtain ⟨s1, e1⟩ := hs.newAt hk0 hkn (.arr e sp ys w false em) (.cells cs e f ex false) ⟨some (k, 0), ys.length, sp.sz, cs.length⟩ 0 rfl
    ⟨rfl, rfl, hsz, .inr ⟨k, 0, cs, f, ex, false, rfl, hem, by rw [IH.get_put, if_pos rfl], rfl, by omega, fun i x hi => (hrow i x hi).mono hk.p hk.i, fun _ => ⟨hkr, rfl, by omega, fun h => by rw [hfw h]; exact Nat.le_refl _⟩, fun h => by cases h⟩⟩
  refine ⟨s1, e1, .all (l := ⟨some (k, 0), ys.length, sp.sz, cs.length⟩) (by simp [Gam.up]) ?_⟩
  exact ⟨cap, by simp, by simpa using hcap⟩
def GoodAt (P : Program) (hint : Hint) (sh : ShT) (K : TV → GH → Option β) (r : β) (Γ : Gam) (Pu : Nat → Prop) (H : GH) (I : IH) (k : Nat) (run : IH → Option OpRes) : Prop :=
  ∃ t H1 Γ1 Pu1 v ob, K t H1 = some r ∧ (∀ I2 : IH, I2.n = k → run I2 = some (.val v (I2.new ob))) ∧ GR Γ1 Pu1 (I.put k ob) t v ∧ Sim P hint sh Γ1 Pu1 H1 (I.put k ob) ∧ Ex (fun b => Own Γ H b ∨ b = k) Γ Pu H I Γ1 Pu1 H1 (I.put k ob)
theorem gBuildSlice_at {sh : ShT} (hs : Sim P hint sh Γ Pu H I) {k : Nat} (hk0 : I.get k = none) (hkn : k < I.n) (hkr : roN ≤ k) {t : TypeId} {len : Nat} {ps : List (Nat × TV)} {ps' : List (Nat × Value)} (h : gBuildSlice P sh H t len ps K = some r) (hp : PsG Γ Pu I ps ps') :
    GoodAt P hint sh K r Γ Pu H I k fun I2 => evBuildSlice P I2 t len ps' := by
  unfold gBuildSlice at h
  split at h
  · rename_i e i he
    replace h := bif_some h; obtain ⟨hb, h⟩ := h
    replace hb := Go.Gv.and_true hb; obtain ⟨hb1, hb2⟩ := hb
    split at h
    · rename_i z s hz hsh
      replace h := bif_some h; obtain ⟨hc, h⟩ := h
      replace hc := Go.Gv.and_true hc; obtain ⟨hc, hc3⟩ := hc
      replace hc := Go.Gv.and_true hc; obtain ⟨hc1, hc2⟩ := hc
      have k1 := beq_true hc1
      have k3 := beq_true hc3
      split at h
      · rename_i cells hf
        obtain ⟨vs', hf', hr'⟩ := fillG_ok (vs := ⟨reps z.cells.toList len⟩) hf hb2 hp (repG_ok (convL_ok hc2) len)
        split at h
        · rename_i cells' H1 hpl
          obtain ⟨Pu1, s1, e1, r1⟩ := pureL_ok hs hpl hr'
          split at h
          · rename_i xs hx
            obtain ⟨a1, a2, a3⟩ := rowsOf_ok hx r1
            have hsz := s.sz_pos
            have a2' : vs'.toList.length = xs.length * s.sz := by rw [a1]; exact a2
            have hlu : len < unk := by
              have := ble_true hb1
              have h2 : len ≤ len * (i.size + 1) := Nat.le_mul_of_pos_right _ (by omega)
              unfold unk
              have : (2 : Nat) ^ 24 < 2 ^ 64 := by decide
              omega
            obtain ⟨s2, e2, r2⟩ := app_newAt s1 hk0 hkn hkr (e := e) (ys := xs) (cs := vs'.toList) hsz a2' a3 true false 0 (Nat.zero_le _) (fun _ => rfl) (fun h => by cases h) len
              (.inr ⟨hlu, by omega, by rw [a2]; omega⟩) true
            rw [a1] at r2 s2 e2
            refine ⟨_, _, _, _, _, _, h, fun I2 hn => ?_, r2, s2, Ex.trans2 hs (e1.wk fun _ h => .inl h) e2 fun b hb hO => ?_⟩
            · simp only [evBuildSlice, he, hz]
              rw [if_pos (by simp [hp.ok hb2]; exact ble_true hb1), if_pos k1, hf', hn]
              rfl
            · rcases hO with h1 | h1
              · exact .inl (e1.own b hb h1)
              · exact .inr h1
          · cases h
        · cases h
      · cases h
    · cases h
  · cases h
theorem gAlloc_at {sh : ShT} (hs : Sim P hint sh Γ Pu H I) {k : Nat} (hk0 : I.get k = none) (hkn : k < I.n) (hkr : roN ≤ k) {e : TypeId} (h : gAlloc P H e K = some r) :
    GoodAt P hint sh K r Γ Pu H I k fun I2 => evAlloc P I2 e := by
  unfold gAlloc at h
  split at h
  · rename_i z hz
    replace h := bif_some h; obtain ⟨hb, h⟩ := h
    obtain ⟨s1, e1⟩ := hs.newAt hk0 hkn (.cells e (z.cells.toList.map conv1) true) (.cells z.cells.toList e 0 true false) ⟨some (k, 0), 0, 0, 0⟩ 0 rfl
      ⟨k, z.cells.toList, 0, true, false, rfl, by rw [IH.get_put, if_pos rfl], (convL_ok hb).mono (keep_at hs hk0 _ _), fun _ => ⟨hkr, rfl, rfl, rfl⟩, fun h => by cases h⟩
    refine ⟨_, _, _, _, _, _, h, fun I2 hn => ?_, .ptr (l := ⟨some (k, 0), 0, 0, 0⟩) (by simp [Gam.up]) rfl, s1, e1⟩
    simp only [evAlloc, hz]
    rw [hn]; rfl
  · cases h
end
end Go.Gv
