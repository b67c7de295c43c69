/- The two heaps side by side, and what each kind of step does to them. -/
import Derived.Test.YtnddpppljnjmcaaGreatDoorGvRel
set_option linter.unusedSimpArgs false
set_option linter.unusedVariables false
namespace Go.Gv
open Go Go.Iv
def ER (Γ : Gam) (Pu : Nat → Prop) (I : IH) (E : GE) (E' : En) : Prop := ∀ t, GR Γ Pu I (lkG E.loc t) (lk E'.loc t) ∧ GR Γ Pu I (lkG E.tmp t) (lk E'.tmp t)
inductive Sub : Code → Code → Prop
  | refl (c : Code) : Sub c c
  | seqL {a b c : Code} : Sub c a → Sub c (.seq a b)
  | seqR {a b c : Code} : Sub c b → Sub c (.seq a b)
  | condL {o : Operand} {a b c : Code} : Sub c a → Sub c (.cond o a b)
  | condR {o : Operand} {a b c : Code} : Sub c b → Sub c (.cond o a b)
  | block {i : Nat} {a c : Code} : Sub c a → Sub c (.block i a)
  | loop {a c : Code} : Sub c a → Sub c (.loop a)
  | asg {f : Operand} {ps : Array Tmp} {a b c : Code} : Sub c a → Sub c (.rangeFunc f ps a b)
  | body {f : Operand} {ps : Array Tmp} {a b c : Code} : Sub c b → Sub c (.rangeFunc f ps a b)
  | scope {a c : Code} : Sub c a → Sub c (.scope a)
theorem Sub.trans {a b c : Code} (h : Sub a b) (k : Sub b c) : Sub a c := by
  induction k with
  | refl => exact h
  | seqL _ ih => exact .seqL (ih h)
  | seqR _ ih => exact .seqR (ih h)
  | condL _ ih => exact .condL (ih h)
  | condR _ ih => exact .condR (ih h)
  | block _ ih => exact .block (ih h)
  | loop _ ih => exact .loop (ih h)
  | asg _ ih => exact .asg (ih h)
  | body _ ih => exact .body (ih h)
  | scope _ ih => exact .scope (ih h)
def InF (P : Program) (hint : Hint) (fid : Nat) (fi : FI) (c : Code) : Prop := ∃ fn b, P.funcs[fid]? = some fn ∧ fn.body = some b ∧ fi = fiOf hint fid fn ∧ Sub c b
theorem InF.sub {P : Program} {hint : Hint} {fid : Nat} {fi : FI} {c c' : Code} (h : InF P hint fid fi c) (hc : Sub c' c) : InF P hint fid fi c' := by
  obtain ⟨fn, b, h1, h2, h3, h4⟩ := h
  exact ⟨fn, b, h1, h2, h3, hc.trans h4⟩
def GObj.mut : GObj → Bool
  | .cells _ _ w => w
  | .arr _ _ _ _ fz _ => !fz
  | _ => true
section
variable {P : Program} {hint : Hint} {sh : ShT}
def OR (P : Program) (hint : Hint) (Γ : Gam) (Pu : Nat → Prop) (I : IH) (l : Loc) : GObj → Prop
  | .cells et cs w => ∃ b vs fz ex sd, l.pos = some (b, 0) ∧ I.get b = some (.cells vs et fz ex sd) ∧ GRs Γ Pu I cs vs ∧ (w = true → roN ≤ b ∧ fz = 0 ∧ ex = true ∧ sd = false) ∧ (w = false → Pu b)
  | .arr et e xs w fz em => l.len = List.length xs ∧ l.sz = e.sz ∧ 0 < e.sz ∧ ((l.pos = none ∧ xs = [] ∧ em ≠ .no) ∨ ∃ b o vs f ex sd, l.pos = some (b, o) ∧ (em = .ex → xs ≠ []) ∧ I.get b = some (.cells vs et f ex sd) ∧ vs.length = l.tot ∧ o + List.length xs * e.sz ≤ vs.length ∧
      (∀ i x, xs[i]? = some x → Enc Pu I e x ((vs.drop (o + i * e.sz)).take e.sz)) ∧ (fz = false → roN ≤ b ∧ sd = false ∧ f ≤ o + List.length xs * e.sz ∧ (w = true → f ≤ o)) ∧ (fz = true → Pu b))
  | .iter s pos => ∃ b, l.pos = some (b, 0) ∧ roN ≤ b ∧ I.get b = some (.strIter (ba s) pos)
  | .map kt gk ge k e xs em => keyOK P kt gk k = true ∧ ((l.pos = none ∧ xs = [] ∧ em = true) ∨ ∃ b es ck, l.pos = some (b, 0) ∧ roN ≤ b ∧ (em = true → xs ≠ []) ∧ I.get b = some (.map es ck) ∧ Ents Pu I gk ge k e xs es)
  | .loop fid st pd fi E ps asg body => ∃ b E', l.pos = some (b, 0) ∧ roN ≤ b ∧ I.get b = some (.loop st pd fi E' ps asg body) ∧ ER Γ Pu I E E' ∧ ∃ f qs, InF P hint fid fi (.rangeFunc f qs asg body) ∧ ps = Array.toList qs
def Own (Γ : Gam) (H : GH) (b : Nat) : Prop := ∃ id o l x, H.get id = some o ∧ o.mut = true ∧ Γ id = some l ∧ l.pos = some (b, x)
structure Sim (P : Program) (hint : Hint) (sh : ShT) (Γ : Gam) (Pu : Nat → Prop) (H : GH) (I : IH) : Prop where
  obj : ∀ id o, H.get id = some o → ∃ l, Γ id = some l ∧ OR P hint Γ Pu I l o
  inj : ∀ id id' o o' l l' b x x', H.get id = some o → H.get id' = some o' → o.mut = true → o'.mut = true → Γ id = some l → Γ id' = some l' → l.pos = some (b, x) → l'.pos = some (b, x') → id = id'
  sep : ∀ b, Own Γ H b → ¬ Pu b
  dom : ∀ id l, Γ id = some l → id < H.n
  fresh : ∀ b, I.n ≤ b → I.get b = none
  pu : ∀ b, Pu b → ∃ cs et fz ex sd, I.get b = some (.cells cs et fz ex sd)
  ro : roN ≤ I.n
  gn : glN ≤ H.n
  glob : ∀ g, g < glN → ∃ l, Γ g = some l ∧ l.pos = some (g, 0)
  st : ∀ id s, H.stamp id = some s → s < H.ck
  tab : ∀ g T, g < glN → sh.tb g = some T → Pu g ∧ ∃ vs et fz ex sd, I.get g = some (.cells vs et fz ex sd) ∧ ex = true ∧ vs.length = List.length T.xs * T.e.sz ∧ ∀ i x, T.xs[i]? = some x → i * T.e.sz + T.e.sz ≤ vs.length ∧ Enc Pu I T.e x ((vs.drop (i * T.e.sz)).take T.e.sz)
structure Ex (O : Nat → Prop) (Γ : Gam) (Pu : Nat → Prop) (H : GH) (I : IH) (Γ1 : Gam) (Pu1 : Nat → Prop) (H1 : GH) (I1 : IH) : Prop where
  g : ∀ id l, Γ id = some l → Γ1 id = some l
  hn : H.n ≤ H1.n
  n : I.n ≤ I1.n
  p : ∀ b, Pu b → Pu1 b
  keep : ∀ b, b < I.n → ¬ O b → I1.get b = I.get b
  own : ∀ b, b < I.n → Own Γ1 H1 b → O b
  pn : ∀ b, b < I.n → Pu1 b → Pu b ∨ O b
  ck : H.ck ≤ H1.ck
  stm : ∀ id, id < H.n → H1.stamp id = none ∨ H1.stamp id = H.stamp id ∨ ∃ s, H1.stamp id = some s ∧ H.ck ≤ s
  hist : ∀ id l b x s, H.stamp id = some s → H1.stamp id = some s → Γ id = some l → l.pos = some (b, x) → I1.get b = I.get b
variable {O : Nat → Prop} {Γ Γ1 Γ2 : Gam} {Pu Pu1 Pu2 : Nat → Prop} {H H1 H2 : GH} {I I1 I2 : IH}
theorem Sim.tabK (hs : Sim P hint sh Γ Pu H I) (hp : ∀ b, Pu b → Pu1 b) (hi : ∀ b, Pu b → I1.get b = I.get b) (g : Nat) (T : Tb) (hg : g < glN) (hT : sh.tb g = some T) :
    Pu1 g ∧ ∃ vs et fz ex sd, I1.get g = some (.cells vs et fz ex sd) ∧ ex = true ∧ vs.length = List.length T.xs * T.e.sz ∧ ∀ i x, T.xs[i]? = some x → i * T.e.sz + T.e.sz ≤ vs.length ∧ Enc Pu1 I1 T.e x ((vs.drop (i * T.e.sz)).take T.e.sz) := by
  obtain ⟨h1, vs, et, fz, ex, sd, h2, h4, h5, h3⟩ := hs.tab g T hg hT
  exact ⟨hp g h1, vs, et, fz, ex, sd, (hi g h1).trans h2, h4, h5, fun i x hx => ⟨(h3 i x hx).1, (h3 i x hx).2.mono hp hi⟩⟩
theorem Sim.lt (h : Sim P hint sh Γ Pu H I) {b : Nat} {o : IObj} (hb : I.get b = some o) : b < I.n :=
  Nat.lt_of_not_le fun hn => by rw [h.fresh b hn] at hb; cases hb
theorem Sim.own_lt (h : Sim P hint sh Γ Pu H I) {b : Nat} (hb : Own Γ H b) : b < I.n := by
  obtain ⟨id, o, l, x, hg, hm, hl, hp⟩ := hb
  obtain ⟨l', hl', ho⟩ := h.obj id o hg
  cases hl.symm.trans hl'
  cases o with
  | cells et cs w => obtain ⟨b', vs, fz, ex, sd, hp', hb', _⟩ := ho; cases hp.symm.trans hp'; exact h.lt hb'
  | arr et e xs w fz em =>
    obtain ⟨_, _, _, h1 | ⟨b', o, vs, f, ex, sd, hp', _, hb', _⟩⟩ := ho
    · rw [h1.1] at hp; cases hp
    · cases hp.symm.trans hp'; exact h.lt hb'
  | iter s pos => obtain ⟨b', hp', _, hb'⟩ := ho; cases hp.symm.trans hp'; exact h.lt hb'
  | map kt gk ge k e xs em =>
    obtain ⟨_, ⟨h1, _⟩ | ⟨b', es, ck, hp', _, _, hb', _⟩⟩ := ho
    · rw [h1] at hp; cases hp
    · cases hp.symm.trans hp'; exact h.lt hb'
  | loop fid st pd fi E ps asg body => obtain ⟨b', E', hp', _, hb', _⟩ := ho; cases hp.symm.trans hp'; exact h.lt hb'
theorem Sim.pu_lt (h : Sim P hint sh Γ Pu H I) {b : Nat} (hb : Pu b) : b < I.n := by
  obtain ⟨cs, et, fz, ex, sd, hg⟩ := h.pu b hb
  exact h.lt hg
theorem Ex.refl (_h : Sim P hint sh Γ Pu H I) : Ex (Own Γ H) Γ Pu H I Γ Pu H I :=
  ⟨fun _ _ x => x, Nat.le_refl _, Nat.le_refl _, fun _ x => x, fun _ _ _ => rfl, fun _ _ x => x, fun _ _ x => .inl x, Nat.le_refl _, fun _ _ => .inr (.inl rfl), fun _ _ _ _ _ _ _ _ _ => rfl⟩
theorem Ex.keepV (hs : Sim P hint sh Γ Pu H I) (h : Ex (Own Γ H) Γ Pu H I Γ1 Pu1 H1 I1) : Keep Γ Pu I Γ1 Pu1 I1 :=
  ⟨h.g, h.p, fun b hb => h.keep b (hs.pu_lt hb) fun ho => hs.sep b ho hb⟩
theorem Ex.trans (hs : Sim P hint sh Γ Pu H I) (_h1 : Sim P hint sh Γ1 Pu1 H1 I1) (h : Ex O Γ Pu H I Γ1 Pu1 H1 I1) (k : Ex (Own Γ1 H1) Γ1 Pu1 H1 I1 Γ2 Pu2 H2 I2) : Ex O Γ Pu H I Γ2 Pu2 H2 I2 where
  g := fun id l x => k.g id l (h.g id l x)
  hn := Nat.le_trans h.hn k.hn
  n := Nat.le_trans h.n k.n
  p := fun b x => k.p b (h.p b x)
  keep := fun b hb ho => (k.keep b (Nat.lt_of_lt_of_le hb h.n) fun x => ho (h.own b hb x)).trans (h.keep b hb ho)
  own := fun b hb x => h.own b hb (k.own b (Nat.lt_of_lt_of_le hb h.n) x)
  pn := fun b hb x => (k.pn b (Nat.lt_of_lt_of_le hb h.n) x).elim (h.pn b hb) fun y => .inr (h.own b hb y)
  ck := Nat.le_trans h.ck k.ck
  stm := fun id hid => by
    rcases k.stm id (Nat.lt_of_lt_of_le hid h.hn) with x | x | ⟨s, x, y⟩
    · exact .inl x
    · rw [x]; exact h.stm id hid
    · exact .inr (.inr ⟨s, x, Nat.le_trans h.ck y⟩)
  hist := fun id l b x s hs0 hs2 hl hp => by
    have hid := hs.dom id l hl
    have hlt := hs.st id s hs0
    rcases k.stm id (Nat.lt_of_lt_of_le hid h.hn) with y | y | ⟨s', y, z⟩
    · rw [y] at hs2; cases hs2
    · rw [y] at hs2
      exact (k.hist id l b x s hs2 (y.trans hs2) (h.g id l hl) hp).trans (h.hist id l b x s hs0 hs2 hl hp)
    · rw [y] at hs2; cases hs2
      have := h.ck
      omega
theorem ER.mono (hk : Keep Γ Pu I Γ1 Pu1 I1) {E : GE} {E' : En} (h : ER Γ Pu I E E') : ER Γ1 Pu1 I1 E E' := fun t => ⟨(h t).1.mono hk, (h t).2.mono hk⟩
theorem OR.mono (hk : Keep Γ Pu I Γ1 Pu1 I1) {l : Loc} {o : GObj} (hb : ∀ b x, l.pos = some (b, x) → I1.get b = I.get b) (h : OR P hint Γ Pu I l o) : OR P hint Γ1 Pu1 I1 l o := by
  cases o with
  | cells et cs w =>
    obtain ⟨b, vs, fz, ex, sd, hp, hg, hr, hw, hu⟩ := h
    exact ⟨b, vs, fz, ex, sd, hp, (hb b 0 hp).trans hg, hr.mono hk, hw, fun x => hk.p b (hu x)⟩
  | arr et e xs w fz em =>
    obtain ⟨h1, h2, h3, h4 | ⟨b, o, vs, f, ex, sd, hp, he, hg, ht, hl, hx, hw, hu⟩⟩ := h
    · exact ⟨h1, h2, h3, .inl h4⟩
    · exact ⟨h1, h2, h3, .inr ⟨b, o, vs, f, ex, sd, hp, he, (hb b o hp).trans hg, ht, hl, fun i x hi => (hx i x hi).mono hk.p hk.i, hw, fun x => hk.p b (hu x)⟩⟩
  | iter s pos => obtain ⟨b, hp, hr, hg⟩ := h; exact ⟨b, hp, hr, (hb b 0 hp).trans hg⟩
  | map kt gk ge k e xs em =>
    obtain ⟨hk0, h1 | ⟨b, es, ck, hp, hr, he, hg, hx⟩⟩ := h
    · exact ⟨hk0, .inl h1⟩
    · exact ⟨hk0, .inr ⟨b, es, ck, hp, hr, he, (hb b 0 hp).trans hg, hx.mono hk.p hk.i⟩⟩
  | loop fid st pd fi E ps asg body => obtain ⟨b, E', hp, hr, hg, hE, h1⟩ := h; exact ⟨b, E', hp, hr, (hb b 0 hp).trans hg, hE.mono hk, h1⟩
theorem Sim.obj_keep (hs : Sim P hint sh Γ Pu H I) (hk : Keep Γ Pu I Γ1 Pu1 I1) {id : Nat} {o : GObj} {l : Loc} (hg : H.get id = some o) (hl : Γ id = some l) (hb : o.mut = true → ∀ b x, l.pos = some (b, x) → I1.get b = I.get b) :
    OR P hint Γ1 Pu1 I1 l o := by
  obtain ⟨l', hl', ho⟩ := hs.obj id o hg
  cases hl.symm.trans hl'
  refine ho.mono hk ?_
  cases hm : o.mut with
  | true => exact hb hm
  | false =>
    intro b x hp
    cases o with
    | cells et cs w =>
      obtain ⟨b', vs, fz, ex, sd, hp', hg', hr, hw, hu⟩ := ho
      cases hp.symm.trans hp'
      exact hk.i b (hu hm)
    | arr et e xs w fz em =>
      obtain ⟨h1, h2, h3, h4 | ⟨b', o, vs, f, ex, sd, hp', he, hg', ht, hl, hx, hw, hu⟩⟩ := ho
      · rw [h4.1] at hp; cases hp
      · cases hp.symm.trans hp'
        exact hk.i b (hu (by simpa [GObj.mut] using hm))
    | iter s pos => cases hm
    | map kt gk ge k e xs em => cases hm
    | loop fid st pd fi E ps asg body => cases hm
def Gam.up (Γ : Gam) (id : Nat) (l : Loc) : Gam := fun k => if k = id then some l else Γ k
theorem Gam.up_old (hs : Sim P hint sh Γ Pu H I) {l0 : Loc} {id : Nat} {l : Loc} (h : Γ id = some l) : Γ.up H.n l0 id = some l := by
  have := hs.dom id l h
  unfold Gam.up
  rw [if_neg (by omega)]; exact h
theorem keep_new (hs : Sim P hint sh Γ Pu H I) (l0 : Loc) (io : IObj) : Keep Γ Pu I (Γ.up H.n l0) Pu (I.new io) :=
  ⟨fun _ _ h => Gam.up_old hs h, fun _ h => h, fun b hb => by rw [IH.get_new, if_neg (Nat.ne_of_lt (hs.pu_lt hb))]⟩
theorem Sim.new (hs : Sim P hint sh Γ Pu H I) (o : GObj) (io : IObj) (l : Loc) (x : Nat) (hp : l.pos = some (I.n, x)) (ho : OR P hint (Γ.up H.n l) Pu (I.new io) l o) :
    Sim P hint sh (Γ.up H.n l) Pu (H.new o) (I.new io) ∧ Ex (Own Γ H) Γ Pu H I (Γ.up H.n l) Pu (H.new o) (I.new io) := by
  have hk := keep_new hs l io
  have old : ∀ id o', H.get id = some o' → id ≠ H.n := fun id o' h => by
    obtain ⟨l', hl', _⟩ := hs.obj id o' h
    exact Nat.ne_of_lt (hs.dom id l' hl')
  have upn : Γ.up H.n l H.n = some l := by simp [Gam.up]
  have ownI : ∀ b, Own (Γ.up H.n l) (H.new o) b → Own Γ H b ∨ b = I.n := by
    rintro b ⟨id, o', l', x', hg, hm', hl', hp'⟩
    rw [GH.get_new] at hg
    split at hg
    · rename_i h; subst h; rw [upn] at hl'; cases hl'; rw [hp] at hp'; cases hp'; exact .inr rfl
    · rename_i h; unfold Gam.up at hl'; rw [if_neg h] at hl'; exact .inl ⟨id, o', l', x', hg, hm', hl', hp'⟩
  have getold : ∀ b, b < I.n → (I.new io).get b = I.get b := fun b hb => by rw [IH.get_new, if_neg (Nat.ne_of_lt hb)]
  refine ⟨⟨?_, ?_, ?_, ?_, ?_, ?_, ?_, ?_, ?_, ?_, hs.tabK hk.p hk.i⟩, ⟨fun _ _ h => Gam.up_old hs h, Nat.le_succ _, Nat.le_succ _, fun _ h => h, fun b hb _ => getold b hb, ?_, fun b _ h => .inl h, Nat.le_succ _, ?_, ?_⟩⟩
  · intro id o' hg
    rw [GH.get_new] at hg
    split at hg
    · rename_i h; subst h; cases hg; exact ⟨l, upn, ho⟩
    · obtain ⟨l', hl', _⟩ := hs.obj id o' hg
      refine ⟨l', Gam.up_old hs hl', hs.obj_keep hk hg hl' fun hm' b x' hp' => getold b (hs.own_lt ⟨id, o', l', x', hg, hm', hl', hp'⟩)⟩
  · intro id id' o1 o2 l1 l2 b x1 x2 hg hg' hm1 hm2 hl1 hl2 hp1 hp2
    rw [GH.get_new] at hg hg'
    unfold Gam.up at hl1 hl2
    split at hg <;> split at hg'
    · rename_i h h'; rw [h, h']
    · rename_i h h'
      rw [if_pos h] at hl1; rw [if_neg h'] at hl2; cases hl1; rw [hp] at hp1; cases hp1
      have := hs.own_lt ⟨id', o2, l2, x2, hg', hm2, hl2, hp2⟩; omega
    · rename_i h h'
      rw [if_neg h] at hl1; rw [if_pos h'] at hl2; cases hl2; rw [hp] at hp2; cases hp2
      have := hs.own_lt ⟨id, o1, l1, x1, hg, hm1, hl1, hp1⟩; omega
    · rename_i h h'
      rw [if_neg h] at hl1; rw [if_neg h'] at hl2
      exact hs.inj id id' o1 o2 l1 l2 b x1 x2 hg hg' hm1 hm2 hl1 hl2 hp1 hp2
  · intro b hb hpu
    rcases ownI b hb with h | h
    · exact hs.sep b h hpu
    · have := hs.pu_lt hpu; omega
  · intro id l' h
    unfold Gam.up at h
    show id < H.n + 1
    split at h
    · omega
    · have := hs.dom id l' h; omega
  · intro b hb
    have hb' : I.n + 1 ≤ b := hb
    rw [IH.get_new, if_neg (by omega)]; exact hs.fresh b (by omega)
  · intro b hb
    obtain ⟨cs, et, fz, ex, sd, hg⟩ := hs.pu b hb
    exact ⟨cs, et, fz, ex, sd, (getold b (hs.lt hg)).trans hg⟩
  · exact Nat.le_succ_of_le hs.ro
  · exact Nat.le_succ_of_le hs.gn
  · intro g hg
    obtain ⟨l', h1, h2⟩ := hs.glob g hg
    exact ⟨l', Gam.up_old hs h1, h2⟩
  · intro id s h
    rw [GH.stamp_new] at h
    show s < H.ck + 1
    split at h
    · cases h; omega
    · have := hs.st id s h; omega
  · intro b hb hown
    rcases ownI b hown with h | h
    · exact h
    · omega
  · intro id hid
    rw [GH.stamp_new, if_neg (by omega)]; exact .inr (.inl rfl)
  · intro id l' b x' s h1 h2 hl' hp'
    obtain ⟨o', hg⟩ := GH.stamp_get h1
    obtain ⟨l2, hl2, ho2⟩ := hs.obj id o' hg
    cases hl'.symm.trans hl2
    cases hm' : o'.mut with
    | true => exact getold b (hs.own_lt ⟨id, o', l', x', hg, hm', hl', hp'⟩)
    | false =>
      cases o' with
      | cells et cs w => obtain ⟨b', vs, fz, ex, sd, hp2, hg2, hr, hw, hu⟩ := ho2; cases hp'.symm.trans hp2; exact hk.i b (hu hm')
      | arr et e xs w fz em =>
        obtain ⟨_, _, _, h4 | ⟨b', o, vs, f, ex, sd, hp2, he, hg2, ht, hl, hx, hw, hu⟩⟩ := ho2
        · rw [h4.1] at hp'; cases hp'
        · cases hp'.symm.trans hp2; exact hk.i b (hu (by simpa [GObj.mut] using hm'))
      | iter s pos => cases hm'
      | map kt gk ge k e xs em => cases hm'
      | loop fid st pd fi E ps asg body => cases hm'
theorem Sim.newNil (hs : Sim P hint sh Γ Pu H I) (o : GObj) (l : Loc) (hp : l.pos = none) (ho : OR P hint (Γ.up H.n l) Pu I l o) :
    Sim P hint sh (Γ.up H.n l) Pu (H.new o) I ∧ Ex (Own Γ H) Γ Pu H I (Γ.up H.n l) Pu (H.new o) I := by
  have hk : Keep Γ Pu I (Γ.up H.n l) Pu I := ⟨fun _ _ h => Gam.up_old hs h, fun _ h => h, fun _ _ => rfl⟩
  have upn : Γ.up H.n l H.n = some l := by simp [Gam.up]
  have ownI : ∀ b, Own (Γ.up H.n l) (H.new o) b → Own Γ H b := by
    rintro b ⟨id, o', l', x', hg, hm', hl', hp'⟩
    rw [GH.get_new] at hg
    split at hg
    · rename_i h; subst h; rw [upn] at hl'; cases hl'; rw [hp] at hp'; cases hp'
    · rename_i h; unfold Gam.up at hl'; rw [if_neg h] at hl'; exact ⟨id, o', l', x', hg, hm', hl', hp'⟩
  refine ⟨⟨?_, ?_, fun b hb => hs.sep b (ownI b hb), ?_, hs.fresh, hs.pu, hs.ro, Nat.le_succ_of_le hs.gn, ?_, ?_, hs.tabK hk.p hk.i⟩, ⟨fun _ _ h => Gam.up_old hs h, Nat.le_succ _, Nat.le_refl _, fun _ h => h, fun b hb _ => rfl, fun b _ => ownI b, fun b _ h => .inl h, Nat.le_succ _, ?_, fun _ _ _ _ _ _ _ _ _ => rfl⟩⟩
  · intro id o' hg
    rw [GH.get_new] at hg
    split at hg
    · rename_i h; subst h; cases hg; exact ⟨l, upn, ho⟩
    · obtain ⟨l', hl', ho'⟩ := hs.obj id o' hg
      exact ⟨l', Gam.up_old hs hl', ho'.mono hk fun _ _ _ => rfl⟩
  · intro id id' o1 o2 l1 l2 b x1 x2 hg hg' hm1 hm2 hl1 hl2 hp1 hp2
    rw [GH.get_new] at hg hg'
    unfold Gam.up at hl1 hl2
    split at hg <;> split at hg'
    · rename_i h h'; rw [h, h']
    · rename_i h h'; rw [if_pos h] at hl1; cases hl1; rw [hp] at hp1; cases hp1
    · rename_i h h'; rw [if_pos h'] at hl2; cases hl2; rw [hp] at hp2; cases hp2
    · rename_i h h'
      rw [if_neg h] at hl1; rw [if_neg h'] at hl2
      exact hs.inj id id' o1 o2 l1 l2 b x1 x2 hg hg' hm1 hm2 hl1 hl2 hp1 hp2
  · intro id l' h
    unfold Gam.up at h
    show id < H.n + 1
    split at h
    · omega
    · have := hs.dom id l' h; omega
  · intro g hg
    obtain ⟨l', h1, h2⟩ := hs.glob g hg
    exact ⟨l', Gam.up_old hs h1, h2⟩
  · intro id s h
    rw [GH.stamp_new] at h
    show s < H.ck + 1
    split at h
    · cases h; omega
    · have := hs.st id s h; omega
  · intro id hid
    rw [GH.stamp_new, if_neg (by omega)]; exact .inr (.inl rfl)
theorem Sim.turn (hs : Sim P hint sh Γ Pu H I) {id : Nat} {o : GObj} {l : Loc} {b x : Nat} (hg : H.get id = some o) (hm : o.mut = true) (hl : Γ id = some l) (hp : l.pos = some (b, x)) (o' : GObj) (io : IObj)
    (ho : OR P hint Γ Pu (I.put b io) l o') :
    Sim P hint sh Γ Pu (H.put id o') (I.put b io) ∧ Ex (Own Γ H) Γ Pu H I Γ Pu (H.put id o') (I.put b io) := by
  have hown : Own Γ H b := ⟨id, o, l, x, hg, hm, hl, hp⟩
  have hblt := hs.own_lt hown
  have hnp := hs.sep b hown
  have hk : Keep Γ Pu I Γ Pu (I.put b io) := ⟨fun _ _ h => h, fun _ h => h, fun b' hb' => by rw [IH.get_put, if_neg (by rintro rfl; exact hnp hb')]⟩
  have ownI : ∀ b', Own Γ (H.put id o') b' → Own Γ H b' := by
    rintro b' ⟨id', o2, l', x', hg', hm', hl', hp'⟩
    rw [GH.get_put] at hg'
    split at hg'
    · rename_i h; subst h; cases hg'; cases hl.symm.trans hl'; exact ⟨id', o, l, x', hg, hm, hl, hp'⟩
    · exact ⟨id', o2, l', x', hg', hm', hl', hp'⟩
  have other : ∀ id' o2 l' b' x', id' ≠ id → H.get id' = some o2 → o2.mut = true → Γ id' = some l' → l'.pos = some (b', x') → (I.put b io).get b' = I.get b' := by
    intro id' o2 l' b' x' hne hg' hm' hl' hp'
    rw [IH.get_put, if_neg]
    rintro rfl
    exact hne (hs.inj id' id o2 o l' l b' x' x hg' hg hm' hm hl' hl hp' hp)
  refine ⟨⟨?_, ?_, fun b' hb' => hs.sep b' (ownI b' hb'), hs.dom, ?_, ?_, hs.ro, hs.gn, hs.glob, ?_, hs.tabK hk.p hk.i⟩, ⟨fun _ _ h => h, Nat.le_refl _, Nat.le_refl _, fun _ h => h, ?_, fun b' _ => ownI b', fun b' _ h => .inl h, Nat.le_succ _, ?_, ?_⟩⟩
  · intro id' o2 hg'
    rw [GH.get_put] at hg'
    split at hg'
    · rename_i h; subst h; cases hg'; exact ⟨l, hl, ho⟩
    · rename_i hne
      obtain ⟨l', hl', _⟩ := hs.obj id' o2 hg'
      exact ⟨l', hl', hs.obj_keep hk hg' hl' fun hm' b' x' hp' => other id' o2 l' b' x' hne hg' hm' hl' hp'⟩
  · intro i1 i2 o1 o2 l1 l2 b' x1 x2 hg1 hg2 hm1 hm2 hl1 hl2 hp1 hp2
    rw [GH.get_put] at hg1 hg2
    have e1 : ∃ o1', H.get i1 = some o1' ∧ o1'.mut = true := by
      split at hg1
      · rename_i h; subst h; exact ⟨o, hg, hm⟩
      · exact ⟨o1, hg1, hm1⟩
    have e2 : ∃ o2', H.get i2 = some o2' ∧ o2'.mut = true := by
      split at hg2
      · rename_i h; subst h; exact ⟨o, hg, hm⟩
      · exact ⟨o2, hg2, hm2⟩
    obtain ⟨p1, q1, r1⟩ := e1
    obtain ⟨p2, q2, r2⟩ := e2
    exact hs.inj i1 i2 p1 p2 l1 l2 b' x1 x2 q1 q2 r1 r2 hl1 hl2 hp1 hp2
  · intro b' hb'
    rw [IH.get_put, if_neg (by have : I.n ≤ b' := hb'; omega)]; exact hs.fresh b' hb'
  · intro b' hb'
    obtain ⟨cs, et, fz, ex, sd, hg'⟩ := hs.pu b' hb'
    exact ⟨cs, et, fz, ex, sd, (hk.i b' hb').trans hg'⟩
  · intro id' s h
    rw [GH.stamp_put] at h
    show s < H.ck + 1
    split at h
    · cases h; omega
    · have := hs.st id' s h; omega
  · intro b' _ hno
    rw [IH.get_put, if_neg (by rintro rfl; exact hno hown)]
  · intro id' _
    rw [GH.stamp_put]
    split
    · exact .inr (.inr ⟨H.ck, rfl, Nat.le_refl _⟩)
    · exact .inr (.inl rfl)
  · intro id' l' b' x' s h1 h2 hl' hp'
    rw [GH.stamp_put] at h2
    split at h2
    · cases h2; have := hs.st id' _ h1; omega
    · rename_i hne
      obtain ⟨o2, hg'⟩ := GH.stamp_get h1
      cases hm' : o2.mut with
      | true => exact other id' o2 l' b' x' hne hg' hm' hl' hp'
      | false =>
        obtain ⟨l2, hl2, ho2⟩ := hs.obj id' o2 hg'
        cases hl'.symm.trans hl2
        cases o2 with
        | cells et cs w => obtain ⟨b2, vs, fz, ex, sd, hp2, hg2, hr, hw, hu⟩ := ho2; cases hp'.symm.trans hp2; exact hk.i b' (hu hm')
        | arr et e xs w fz em =>
          obtain ⟨_, _, _, h4 | ⟨b2, o, vs, f, ex, sd, hp2, he, hg2, ht, hl, hx, hw, hu⟩⟩ := ho2
          · rw [h4.1] at hp'; cases hp'
          · cases hp'.symm.trans hp2; exact hk.i b' (hu (by simpa [GObj.mut] using hm'))
        | iter s pos => cases hm'
        | map kt gk ge k e xs em => cases hm'
        | loop fid st pd fi E ps asg body => cases hm'
end
end Go.Gv
