/- Regions that draw their order, the second part: what the evaluator's own walk has at hand at each operation. -/
import Derived.Test.YtoiiimbhfdnomaaDoorIvDrawA
import Derived.Test.YtoiiimbhfdnomaaDoorIvPureB
namespace Go.Iv
open Go

/-- A walk, its start, what is known of the region. -/
structure Walk (P : Program) (sf : Self) (fi : FI) (ops : Array Oper) (n0 : Nat) (T0 : En) (H0 : IH) (S : Nat → DS) (C : Nat) (R : DR) : Prop where
  tr : Trace P sf fi ops n0 S C R
  start : S 0 = ⟨T0, H0, [], [], []⟩
  back : Back ops
  uniq : ∀ (i j : Nat) (oi oj : Oper) (t : Tmp), ops[i]? = some oi → ops[j]? = some oj → oi.dst = some t → oj.dst = some t → i = j
  looks : ∀ (i j : Nat) (oi oj : Oper) (t : Tmp), ops[i]? = some oi → ops[j]? = some oj → oj.dst = some t → t ∈ oi.looksAt ops → (pm ops i).testBit j = true ∨ (pm ops j).testBit i = true

/-- The i-th operation. -/
def oo (ops : Array Oper) (i : Nat) : Oper := ops.getD i default
theorem oo_get {ops : Array Oper} {i : Nat} (h : i < ops.size) : ops[i]? = some (oo ops i) := by simp [oo, h]

/-- It runs in the evaluator's walk. -/
def Ok (ops : Array Oper) (C i : Nat) : Prop := i < ops.size ∧ (i < C ∨ (C < i ∧ (pm ops i).testBit C = false))
def On (fi : FI) (ops : Array Oper) (S : Nat → DS) (i : Nat) : Prop := wantedI fi ops (S i).T (oo ops i) = some true
def Ch (P : Program) (fi : FI) (ops : Array Oper) (S : Nat → DS) (C i : Nat) : Prop := Ok ops C i ∧ kindOf P (oo ops i) = .chain ∧ On fi ops S i
def Chx (P : Program) (fi : FI) (ops : Array Oper) (S : Nat → DS) (C i : Nat) : Prop := Ch P fi ops S C i ∨ (i = C ∧ C < ops.size)
def Fr (P : Program) (fi : FI) (ops : Array Oper) (S : Nat → DS) (C i : Nat) : Prop := Ok ops C i ∧ kindOf P (oo ops i) = .fresh ∧ On fi ops S i
noncomputable def obOf (P : Program) (sf : Self) (fi : FI) (ops : Array Oper) (n0 : Nat) (S : Nat → DS) (f : Nat) : IObj :=
  match evOp P sf (opd fi (S f).T) { (S f).H with n := n0 + f } (oo ops f) with
  | some (.val _ H1) => (H1.get (n0 + f)).getD (.dfr true)
  | _ => .dfr true

theorem putT_ne {fi : FI} {T : En} {d : Option Tmp} {t : Nat} (v : Value) (h : d ≠ some t) : lkE fi (putT fi T d v) t = lkE fi T t := by
  cases d with
  | none => rfl
  | some d => simp only [putT, lkE_putE]; rw [if_neg]; rintro ⟨rfl, -⟩; exact h rfl
theorem putT_eq {fi : FI} (T : En) {t : Nat} (v : Value) (h : t < fi.nt) : lkE fi (putT fi T (some t) v) t = v := by
  simp only [putT, lkE_putE]; simp [h]
theorem lkE_out {fi : FI} (T : En) {t : Nat} (h : fi.nt ≤ t) : lkE fi T t = poison := by
  unfold lkE cls
  rw [Nat.ble_eq_true_of_le h]; rfl

theorem chained_spec {m : Nat} : ∀ {l : List (Nat × IH)}, chained m l = true → ∀ p ∈ l, m.testBit p.1 = true := by
  intro l
  induction l with
  | nil => intro _ p hp; cases hp
  | cons x l ih =>
    intro h p hp
    obtain ⟨c, Hc⟩ := x
    simp only [chained, Bool.and_eq_true] at h
    rcases List.mem_cons.1 hp with rfl | hp
    · exact h.1
    · exact ih h.2 p hp

theorem okSnaps_spec {P : Program} {sf : Self} {fi : FI} {T : En} {o : Oper} {v : Value} {m : Nat} : ∀ {l : List (Nat × IH)}, okSnaps P sf fi T o v m l = true → ∀ p ∈ l, m.testBit p.1 = true ∨ sameAt P sf fi T p.2 o v = true := by
  intro l
  induction l with
  | nil => intro _ p hp; cases hp
  | cons x l ih =>
    intro h p hp
    obtain ⟨c, Hc⟩ := x
    simp only [okSnaps, Bool.and_eq_true, Bool.or_eq_true] at h
    rcases List.mem_cons.1 hp with rfl | hp
    · exact h.1
    · exact ih h.2 p hp

theorem okReads_spec {P : Program} {sf : Self} {fi : FI} {H : IH} {m : Nat} : ∀ {l : List Rd}, okReads P sf fi H m l = true → ∀ r ∈ l, m.testBit r.i = true ∨ sameAt P sf fi r.T H r.o r.v = true := by
  intro l
  induction l with
  | nil => intro _ p hp; cases hp
  | cons x l ih =>
    intro h p hp
    simp only [okReads, Bool.and_eq_true, Bool.or_eq_true] at h
    rcases List.mem_cons.1 hp with rfl | hp
    · exact h.1
    · exact ih h.2 p hp

theorem not_ok_C {ops : Array Oper} {C : Nat} : ¬ Ok ops C C := by rintro ⟨-, h | ⟨h, -⟩⟩ <;> omega


theorem resv_lt {P : Program} {fi : FI} {ops : Array Oper} {S : Nat → DS} {C i : Nat} (h : Fr P fi ops S C i) : i < resv P ops := by
  have hi := h.1.1
  unfold resv
  rw [if_pos]
  · exact hi
  · rw [List.any_eq_true]
    refine ⟨oo ops i, ?_, by simpa using h.2.1⟩
    have := oo_get hi
    simpa using Array.mem_of_getElem? this

section
variable {P : Program} {sf : Self} {fi : FI} {ops : Array Oper} {n0 : Nat} {T0 : En} {H0 : IH} {S : Nat → DS} {C : Nat} {R : DR} (W : Walk P sf fi ops n0 T0 H0 S C R)
include W

theorem Walk.step {i : Nat} (h : Ok ops C i) : StepK P sf fi ops n0 i (oo ops i) (pm ops i) (S i) (S (i + 1)) := W.tr.step i _ (oo_get h.1) h.2

theorem Walk.pan (h : C < ops.size) : ∃ v Hp, R = .panic v Hp ∧ PanK P sf fi ops n0 (oo ops C) (pm ops C) (S C) v Hp ∧ S (C + 1) = { S C with snaps := (C, (S C).H) :: (S C).snaps } := W.tr.pan _ (oo_get h)

/-- What becomes of a step: three ways. -/
theorem Walk.cases (i : Nat) (hi : i < ops.size) : Ok ops C i ∨ (i = C ∧ C < ops.size) ∨ (C < i ∧ (pm ops i).testBit C = true ∧ S (i + 1) = S i) := by
  rcases Nat.lt_trichotomy i C with h | h | h
  · exact .inl ⟨hi, .inl h⟩
  · exact .inr (.inl ⟨h, h ▸ hi⟩)
  · cases hb : (pm ops i).testBit C with
    | false => exact .inl ⟨hi, .inr ⟨h, hb⟩⟩
    | true => exact .inr (.inr ⟨h, rfl, W.tr.skip i _ (oo_get hi) h hb⟩)

/-! ### Temporaries -/
theorem Walk.T_step (i : Nat) (hi : i < ops.size) : (S (i + 1)).T = (S i).T ∨ (Ok ops C i ∧ ∃ v, (S (i + 1)).T = putT fi (S i).T (oo ops i).dst v) := by
  rcases W.cases i hi with h | ⟨rfl, h⟩ | ⟨-, -, h⟩
  · cases W.step h with
    | off _ e => exact .inr ⟨h, _, by rw [e]⟩
    | pure _ _ v _ _ e => exact .inr ⟨h, v, by rw [e]⟩
    | read _ _ v _ _ _ e => exact .inr ⟨h, v, by rw [e]⟩
    | fresh _ _ v _ _ _ _ e => exact .inr ⟨h, v, by rw [e]⟩
    | chain _ _ v _ _ _ _ _ _ e => exact .inr ⟨h, v, by rw [e]⟩
  · obtain ⟨v, Hp, -, -, e⟩ := W.pan h; exact .inl (by rw [e])
  · exact .inl (by rw [h])

theorem Walk.T_keep {t : Nat} : ∀ (k j : Nat), j ≤ k → k ≤ ops.size → (∀ x, j ≤ x → x < k → (oo ops x).dst ≠ some t) → lkE fi (S k).T t = lkE fi (S j).T t := by
  intro k
  induction k with
  | zero => intro j hj _ _; rw [show j = 0 by omega]
  | succ k ih =>
    intro j hj hk h
    rcases Nat.lt_or_ge k j with hjk | hjk
    · rw [show j = k + 1 by omega]
    · rw [← ih j hjk (by omega) fun x h1 h2 => h x h1 (by omega)]
      rcases W.T_step k (by omega) with e | ⟨-, v, e⟩
      · rw [e]
      · rw [e]; exact putT_ne v (h k hjk (by omega))

/-! ### The heap -/
theorem Walk.H_step (i : Nat) (hi : i < ops.size) (h : ¬ Ch P fi ops S C i) : (S (i + 1)).H = (S i).H := by
  rcases W.cases i hi with hk | ⟨rfl, hk⟩ | ⟨-, -, hk⟩
  · cases W.step hk with
    | off _ e => rw [e]
    | pure _ _ v _ _ e => rw [e]
    | read _ _ v _ _ _ e => rw [e]
    | fresh _ _ v _ _ _ _ e => rw [e]
    | chain a b _ _ _ _ _ _ _ e => exact absurd ⟨hk, b, a⟩ h
  · obtain ⟨v, Hp, -, -, e⟩ := W.pan hk; rw [e]
  · rw [hk]

theorem Walk.H_keep : ∀ (k j : Nat), j ≤ k → k ≤ ops.size → (∀ x, j ≤ x → x < k → ¬ Ch P fi ops S C x) → (S k).H = (S j).H := by
  intro k
  induction k with
  | zero => intro j hj _ _; rw [show j = 0 by omega]
  | succ k ih =>
    intro j hj hk h
    rcases Nat.lt_or_ge k j with hjk | hjk
    · rw [show j = k + 1 by omega]
    · rw [← ih j hjk (by omega) fun x h1 h2 => h x h1 (by omega)]
      exact W.H_step k (by omega) (h k hjk (by omega))

theorem Walk.snaps : ∀ k, k ≤ ops.size → ∀ i, i < k → Chx P fi ops S C i → (i, (S i).H) ∈ (S k).snaps := by
  intro k
  induction k with
  | zero => intro _ i hi; omega
  | succ k ih =>
    intro hk i hi hc
    have old : i < k → (i, (S i).H) ∈ (S k).snaps := fun h => ih (by omega) i h hc
    rcases W.cases k (by omega) with hok | ⟨rfl, hok⟩ | ⟨h1, h2, hok⟩
    · have ne : ¬ kindOf P (oo ops k) = .chain → i < k := by
        intro h
        rcases Nat.lt_or_ge i k with h' | h'
        · exact h'
        · have : i = k := by omega
          subst this
          rcases hc with hc | ⟨rfl, _⟩
          · exact absurd hc.2.1 h
          · exact absurd hok not_ok_C
      cases W.step hok with
      | off a e =>
        rw [e]
        rcases Nat.lt_or_ge i k with h' | h'
        · exact old h'
        · have : i = k := by omega
          subst this
          rcases hc with hc | ⟨rfl, _⟩
          · have := hc.2.2; unfold On at this; rw [a] at this; cases this
          · exact absurd hok not_ok_C
      | pure _ b v _ _ e => rw [e]; exact old (ne (by rw [b]; intro x; cases x))
      | read _ b v _ _ _ e => rw [e]; exact old (ne (by rw [b]; intro x; cases x))
      | fresh _ b v _ _ _ _ e => rw [e]; exact old (ne (by rw [b]; intro x; cases x))
      | chain a b _ _ _ _ _ _ _ e =>
        rw [e]
        rcases Nat.lt_or_ge i k with h' | h'
        · exact List.mem_cons_of_mem _ (old h')
        · have : i = k := by omega
          subst this; exact List.mem_cons_self
    · obtain ⟨v, Hp, -, -, e⟩ := W.pan hok
      rw [e]
      rcases Nat.lt_or_ge i k with h' | h'
      · exact List.mem_cons_of_mem _ (old h')
      · have : i = k := by omega
        subst this; exact List.mem_cons_self
    · rw [hok]
      rcases Nat.lt_or_ge i k with h' | h'
      · exact old h'
      · have : i = k := by omega
        subst this
        rcases hc with hc | ⟨rfl, _⟩
        · rcases hc.1.2 with x | ⟨-, x⟩
          · omega
          · rw [h2] at x; cases x
        · omega

theorem Walk.reads : ∀ k, k ≤ ops.size → ∀ i, i < k → Ok ops C i → kindOf P (oo ops i) = .read → On fi ops S i → ∀ v H1, evOp P sf (opd fi (S i).T) (S i).H (oo ops i) = some (.val v H1) → (⟨i, oo ops i, (S i).T, v⟩ : Rd) ∈ (S k).reads := by
  intro k
  induction k with
  | zero => intro _ i hi; omega
  | succ k ih =>
    intro hk i hi hoi hki hon v H1 hev
    have old : i < k → (⟨i, oo ops i, (S i).T, v⟩ : Rd) ∈ (S k).reads := fun h => ih (by omega) i h hoi hki hon v H1 hev
    rcases W.cases k (by omega) with hok | ⟨rfl, hok⟩ | ⟨h1, h2, hok⟩
    · have ne : kindOf P (oo ops k) ≠ .read → i < k := by
        intro h
        rcases Nat.lt_or_ge i k with h' | h'
        · exact h'
        · have : i = k := by omega
          subst this; exact absurd hki h
      cases W.step hok with
      | off a e =>
        rw [e]
        rcases Nat.lt_or_ge i k with h' | h'
        · exact old h'
        · have : i = k := by omega
          subst this
          unfold On at hon; rw [a] at hon; cases hon
      | pure _ b _ _ _ e => rw [e]; exact old (ne (by rw [b]; intro x; cases x))
      | read _ b v1 H2 he _ e =>
        rw [e]
        rcases Nat.lt_or_ge i k with h' | h'
        · exact List.mem_cons_of_mem _ (old h')
        · have : i = k := by omega
          subst this
          rw [hev] at he; cases he
          exact List.mem_cons_self
      | fresh _ b _ _ _ _ _ e => rw [e]; exact old (ne (by rw [b]; intro x; cases x))
      | chain _ b _ _ _ _ _ _ _ e => rw [e]; exact old (ne (by rw [b]; intro x; cases x))
    · obtain ⟨v1, Hp, -, -, e⟩ := W.pan hok
      rw [e]
      rcases Nat.lt_or_ge i k with h' | h'
      · exact old h'
      · have : i = k := by omega
        subst this; exact absurd hoi not_ok_C
    · rw [hok]
      rcases Nat.lt_or_ge i k with h' | h'
      · exact old h'
      · have : i = k := by omega
        subst this
        rcases hoi.2 with x | ⟨-, x⟩
        · omega
        · rw [h2] at x; cases x

theorem Walk.bit_lt {i j : Nat} (hi : i < ops.size) (h : (pm ops i).testBit j = true) : j < i := pm_lt W.back i hi h

theorem Walk.pend : ∀ k, k ≤ ops.size → ∀ f ob, (f, ob) ∈ (S k).pend ↔ (f < k ∧ Fr P fi ops S C f ∧ ob = obOf P sf fi ops n0 S f ∧ ∀ x, x < k → Ch P fi ops S C x → (pm ops x).testBit f = false) := by
  intro k
  induction k with
  | zero => intro _ f ob; rw [W.start]; simp
  | succ k ih =>
    intro hk f ob
    have hik := ih (by omega) f ob
    -- neither laid nor taken here
    have same : ¬ Fr P fi ops S C k → ¬ Ch P fi ops S C k → ((f < k + 1 ∧ Fr P fi ops S C f ∧ ob = obOf P sf fi ops n0 S f ∧ ∀ x, x < k + 1 → Ch P fi ops S C x → (pm ops x).testBit f = false) ↔
        (f < k ∧ Fr P fi ops S C f ∧ ob = obOf P sf fi ops n0 S f ∧ ∀ x, x < k → Ch P fi ops S C x → (pm ops x).testBit f = false)) := by
      intro h1 h2
      constructor
      · rintro ⟨a, b, c, d⟩
        refine ⟨?_, b, c, fun x hx => d x (by omega)⟩
        rcases Nat.lt_or_ge f k with h' | h'
        · exact h'
        · have : f = k := by omega
          subst this; exact absurd b h1
      · rintro ⟨a, b, c, d⟩
        refine ⟨by omega, b, c, fun x hx hcx => ?_⟩
        rcases Nat.lt_or_ge x k with h' | h'
        · exact d x h' hcx
        · have : x = k := by omega
          subst this; exact absurd hcx h2
    have notOk : ¬ Ok ops C k → ¬ Fr P fi ops S C k ∧ ¬ Ch P fi ops S C k := fun h => ⟨fun x => h x.1, fun x => h x.1⟩
    rcases W.cases k (by omega) with hok | ⟨rfl, hok⟩ | ⟨h1, h2, hok⟩
    · cases W.step hok with
      | off a e =>
        rw [e, same (fun x => ?_) (fun x => ?_)]; exact hik
        · have := x.2.2; unfold On at this; rw [a] at this; cases this
        · have := x.2.2; unfold On at this; rw [a] at this; cases this
      | pure _ b _ _ _ e => rw [e, same (fun x => by have := x.2.1; rw [b] at this; cases this) (fun x => by have := x.2.1; rw [b] at this; cases this)]; exact hik
      | read _ b _ _ _ _ e => rw [e, same (fun x => by have := x.2.1; rw [b] at this; cases this) (fun x => by have := x.2.1; rw [b] at this; cases this)]; exact hik
      | fresh a b v H1 ob1 he hb e =>
        rw [e]
        have hob : ob1 = obOf P sf fi ops n0 S k := by unfold obOf; rw [he]; simp only; rw [hb]; rfl
        simp only [List.mem_cons, Prod.mk.injEq]
        rw [hik]
        constructor
        · rintro (⟨rfl, rfl⟩ | ⟨h1, h2, h3, h4⟩)
          · refine ⟨by omega, ⟨hok, b, a⟩, hob, fun x hx hcx => ?_⟩
            cases hbit : (pm ops x).testBit f with
            | false => rfl
            | true => have := W.bit_lt hcx.1.1 hbit; omega
          · refine ⟨by omega, h2, h3, fun x hx hcx => ?_⟩
            rcases Nat.lt_or_ge x k with h' | h'
            · exact h4 x h' hcx
            · have : x = k := by omega
              subst this
              have := hcx.2.1; rw [b] at this; cases this
        · rintro ⟨h1, h2, h3, h4⟩
          rcases Nat.lt_or_ge f k with h' | h'
          · exact .inr ⟨h', h2, h3, fun x hx => h4 x (by omega)⟩
          · have : f = k := by omega
            subst this
            exact .inl ⟨rfl, h3.trans hob.symm⟩
      | chain a b v H1 res hc hres he hr e =>
        rw [e]
        simp only [List.mem_filter, Bool.not_eq_true']
        rw [hik]
        constructor
        · rintro ⟨⟨h1, h2, h3, h4⟩, h5⟩
          refine ⟨by omega, h2, h3, fun x hx hcx => ?_⟩
          rcases Nat.lt_or_ge x k with h' | h'
          · exact h4 x h' hcx
          · have : x = k := by omega
            subst this; exact h5
        · rintro ⟨h1, h2, h3, h4⟩
          refine ⟨⟨?_, h2, h3, fun x hx => h4 x (by omega)⟩, h4 k (by omega) ⟨hok, b, a⟩⟩
          rcases Nat.lt_or_ge f k with h' | h'
          · exact h'
          · have : f = k := by omega
            subst this
            have := h2.2.1; rw [b] at this; cases this
    · obtain ⟨v1, Hp, -, -, e⟩ := W.pan hok
      have := notOk not_ok_C
      rw [e, same this.1 this.2]; exact hik
    · have : ¬ Ok ops C k := by
        rintro ⟨-, x | ⟨-, x⟩⟩
        · omega
        · rw [h2] at x; cases x
      have := notOk this
      rw [hok, same this.1 this.2]; exact hik

/-! ### The chain -/
theorem Walk.chain_bit {i j : Nat} (hi : Chx P fi ops S C i) (hj : Chx P fi ops S C j) (hij : i < j) : (pm ops j).testBit i = true := by
  have key : ∀ m, chained m (S j).snaps = true → j < ops.size → m.testBit i = true := fun m h hlt => chained_spec h _ (W.snaps j (by omega) i hij hi)
  rcases hj with hj | ⟨rfl, hj⟩
  · cases W.step hj.1 with
    | off a e => have := hj.2.2; unfold On at this; rw [a] at this; cases this
    | pure _ b _ _ _ e => have := hj.2.1; rw [b] at this; cases this
    | read _ b _ _ _ _ e => have := hj.2.1; rw [b] at this; cases this
    | fresh _ b _ _ _ _ _ e => have := hj.2.1; rw [b] at this; cases this
    | chain _ _ _ _ _ hc _ _ _ e => exact key _ hc hj.1.1
  · obtain ⟨v, Hp, -, hp, -⟩ := W.pan hj
    exact key _ hp.chained hj

/-- What a read comes to at each heap at which it may come up. -/
theorem Walk.read_at {i q : Nat} (hi : Ok ops C i) (hk : kindOf P (oo ops i) = .read) (ho : On fi ops S i) {L : Nat → Prop} (hLi : ¬ L i) (hpre : ∀ j, (pm ops i).testBit j = true → L j)
    (hcl : ∀ x j, L x → x < ops.size → (pm ops x).testBit j = true → L j) (hq : q ≤ ops.size) (hbef : ∀ x, x < q → Chx P fi ops S C x → L x) (hat : q < ops.size → Chx P fi ops S C q ∧ ¬ L q) :
    ∃ v v1 H1 H2, evOp P sf (opd fi (S i).T) (S i).H (oo ops i) = some (.val v H1) ∧ (S (i + 1)).T = putT fi (S i).T (oo ops i).dst v ∧ evOp P sf (opd fi (S i).T) (S q).H (oo ops i) = some (.val v1 H2) ∧ (v1 = v ∨ sameV v v1 = true) := by
  cases W.step hi with
  | off a e => unfold On at ho; rw [a] at ho; cases ho
  | pure _ b _ _ _ e => rw [b] at hk; cases hk
  | fresh _ b _ _ _ _ _ e => rw [b] at hk; cases hk
  | chain _ b _ _ _ _ _ _ _ e => rw [b] at hk; cases hk
  | read _ _ v H1 he hs e =>
    have hsame : ∀ {H : IH}, sameAt P sf fi (S i).T H (oo ops i) v = true → ∃ v1 H2, evOp P sf (opd fi (S i).T) H (oo ops i) = some (.val v1 H2) ∧ sameV v v1 = true := by
      intro H h
      unfold sameAt at h
      split at h
      · rename_i v' hv
        unfold valAt at hv
        split at hv
        · rename_i u H2 hu; cases hv; exact ⟨_, _, hu, h⟩
        · cases hv
      · cases h
    rcases Nat.lt_or_ge q i with hqi | hqi
    · have hlt : q < ops.size := by have := hi.1; omega
      obtain ⟨hc, hnl⟩ := hat hlt
      rcases okSnaps_spec hs _ (W.snaps i (by have := hi.1; omega) q hqi hc) with x | x
      · exact absurd (hpre q x) hnl
      · obtain ⟨v1, H2, h1, h2⟩ := hsame x; exact ⟨v, v1, H1, H2, he, by rw [e], h1, .inr h2⟩
    · -- the last link of the chain ahead of q, behind i
      have last : ∀ k, i ≤ k → k ≤ q → (∀ x, i ≤ x → x < k → ¬ Ch P fi ops S C x) ∨ ∃ c, i < c ∧ c < k ∧ Ch P fi ops S C c ∧ ∀ x, c < x → x < k → ¬ Ch P fi ops S C x := by
        intro k
        induction k with
        | zero => intro _ _; exact .inl fun x _ hx => by omega
        | succ k ih =>
          intro h1 h2
          rcases Nat.lt_or_ge k i with h' | h'
          · exact .inl fun x _ _ => by omega
          · by_cases hck : Ch P fi ops S C k
            · have hne : i ≠ k := by rintro rfl; have := hck.2.1; rw [hk] at this; cases this
              exact .inr ⟨k, by omega, by omega, hck, fun x _ _ => by omega⟩
            · rcases ih h' (by omega) with h3 | ⟨c, c1, c2, c3, c4⟩
              · left
                intro x hx hxk
                rcases Nat.lt_or_ge x k with h'' | h''
                · exact h3 x hx h''
                · rw [show x = k by omega]; exact hck
              · right
                refine ⟨c, c1, by omega, c3, fun x hx hxk => ?_⟩
                rcases Nat.lt_or_ge x k with h'' | h''
                · exact c4 x hx h''
                · rw [show x = k by omega]; exact hck
      rcases last q hqi (Nat.le_refl _) with h | ⟨c, c1, c2, c3, c4⟩
      · have hH : (S q).H = (S i).H := W.H_keep q i hqi hq h
        exact ⟨v, v, H1, H1, he, by rw [e], by rw [hH]; exact he, .inl rfl⟩
      · have hH : (S q).H = (S (c + 1)).H := W.H_keep q (c + 1) (by omega) hq fun x h1 h2 => c4 x (by omega) h2
        have hLc : L c := hbef c c2 (.inl c3)
        have hbit : (pm ops c).testBit i = false := by
          cases hb : (pm ops c).testBit i with
          | false => rfl
          | true => exact absurd (hcl c i hLc c3.1.1 hb) hLi
        have hmem := W.reads c (by omega) i c1 hi hk ho v H1 he
        cases W.step c3.1 with
        | off a e' => have := c3.2.2; unfold On at this; rw [a] at this; cases this
        | pure _ b _ _ _ e' => have := c3.2.1; rw [b] at this; cases this
        | read _ b _ _ _ _ e' => have := c3.2.1; rw [b] at this; cases this
        | fresh _ b _ _ _ _ _ e' => have := c3.2.1; rw [b] at this; cases this
        | chain _ _ v3 H3 _ _ _ _ hr e' =>
          rcases okReads_spec hr _ hmem with x | x
          · simp only at x; rw [hbit] at x; cases x
          · obtain ⟨v1, H2, h1, h2⟩ := hsame x
            refine ⟨v, v1, H1, H2, he, by rw [e], ?_, .inr h2⟩
            rw [hH, e']; exact h1
end

end Go.Iv
