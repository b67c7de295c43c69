/- A region that draws its order comes to what the evaluator says. -/
import Derived.Test.YtoiiimbhfdnomaaDoorIvDrawD
namespace Go.Iv
open Go

section
variable {P : Program} {sf : Self} {fi : FI} {ops : Array Oper} {n0 : Nat} {T0 : En} {Hs : IH} {S : Nat → DS} {C : Nat} {R : DR} (W : Walk P sf fi ops n0 T0 Hs S C R)
variable {Γ0 : Ga} {H0 : IH} {w0 : World} {D : List Deferred} {L : Nat → Prop} {Γ Γ1 : Ga} {a : Act} {w w1 : World} {q : Nat} {H1 : IH}
include W

omit W in
/-- The next link of the chain. -/
theorem nextq (k : Nat) (hk : k ≤ ops.size) : ∃ q, k ≤ q ∧ q ≤ ops.size ∧ (∀ x, k ≤ x → x < q → ¬ Chx P fi ops S C x) ∧ (q < ops.size → Chx P fi ops S C q) := by
  have key : ∀ d k, ops.size - k = d → k ≤ ops.size → ∃ q, k ≤ q ∧ q ≤ ops.size ∧ (∀ x, k ≤ x → x < q → ¬ Chx P fi ops S C x) ∧ (q < ops.size → Chx P fi ops S C q) := by
    intro d
    induction d with
    | zero => intro k h1 h2; exact ⟨k, Nat.le_refl _, h2, fun x _ _ => by omega, fun _ => by omega⟩
    | succ d ih =>
      intro k h1 h2
      by_cases hc : Chx P fi ops S C k
      · exact ⟨k, Nat.le_refl _, h2, fun x _ _ => by omega, fun _ => hc⟩
      · obtain ⟨q, h3, h4, h5, h6⟩ := ih (k + 1) (by omega) (by omega)
        refine ⟨q, by omega, h4, fun x hx hxq => ?_, h6⟩
        rcases Nat.lt_or_ge k x with h' | h'
        · exact h5 x (by omega) hxq
        · rw [show x = k by omega]; exact hc
  exact key _ k rfl hk

theorem Inv.q_of (_hL : Lset ops C L) (I : Inv P sf fi ops n0 T0 S C Γ0 H0 w0 D L Γ a w q) {i : Nat} (hi : Chx P fi ops S C i) (his : i < ops.size) (hLi : ¬ L i) (hpre : ∀ j, (pm ops i).testBit j = true → L j) : q = i := by
  rcases Nat.lt_trichotomy q i with h | h | h
  · have hq := I.at_ (by omega)
    exact absurd (hpre q (W.chain_bit hq.1 hi h)) hq.2
  · exact h
  · exact absurd (I.before i h hi) hLi

/-- What the blocks are that a link of the chain takes in. -/
theorem Inv.taken (I : Inv P sf fi ops n0 T0 S C Γ0 H0 w0 D L Γ a w q) (hL : Lset ops C L) (hq : q < ops.size) (hpre : ∀ j, (pm ops q).testBit j = true → L j) :
    (∀ p ∈ (S q).pend.filter (fun x => (pm ops q).testBit x.1), (pm ops q).testBit p.1 = true ∧ Free P fi ops S C L p.1 ∧ p.2 = obOf P sf fi ops n0 S p.1) := by
  intro p hp
  obtain ⟨f, ob⟩ := p
  simp only [List.mem_filter] at hp
  obtain ⟨h1, h2⟩ := hp
  obtain ⟨g1, g2, g3, g4⟩ := (W.pend q (by omega) f ob).1 h1
  refine ⟨h2, ⟨hpre f h2, g2, fun x hx hLx => ?_⟩, g3⟩
  rcases Nat.lt_or_ge x q with h | h
  · exact g4 x h hx
  · exfalso
    rcases Nat.lt_or_ge q x with h' | h'
    · exact (I.at_ hq).2 (hL.cl x q hLx (W.chain_bit (I.at_ hq).1 (.inl hx) h'))
    · rw [show x = q by omega] at hLx; exact (I.at_ hq).2 hLx

omit W in
theorem Inv.apart (I : Inv P sf fi ops n0 T0 S C Γ0 H0 w0 D L Γ a w q) {l : List (Nat × IObj)} (hl : ∀ p ∈ l, Free P fi ops S C L p.1 ∧ p.2 = obOf P sf fi ops n0 S p.1) :
    (∀ p ∈ l, Apart n0 Γ (S q).H w w0.heap.size p.1 p.2) ∧ Rh Γ (overlay n0 l (S q).H) w := by
  have ha : ∀ p ∈ l, Apart n0 Γ (S q).H w w0.heap.size p.1 p.2 := fun p hp => by
    obtain ⟨h1, h2⟩ := hl p hp
    rw [h2]; exact I.side _ h1
  exact ⟨ha, overlay_rh I.rh l ha fun p hp p' hp' hne => I.dist _ _ (hl p hp).1 (hl p' hp').1 hne⟩

omit W in
theorem FO_gg (I : GG n0 (resv P ops) Γ0 H0 w0 (fun f => L f ∧ Fr P fi ops S C f) Γ H1 w) (h0 : Rh Γ0 H0 w0) {ro : Option Nat} (hro : RoOK Γ0 ro) : FO Γ ro = FO Γ0 ro := FO_le (I.le0 h0) hro

/-- One operation that may come next. -/
theorem Walk.one (Sd : Sound P sf) (hng : noNG P = true) (h0 : Rh Γ0 H0 w0) {ro : Option Nat} (hro : RoOK Γ0 ro) (hL : Lset ops C L) (I : Inv P sf fi ops n0 T0 S C Γ0 H0 w0 D L Γ a w q) {i : Nat} (hi : i < ops.size) (hLi : ¬ L i)
    (hpre : ∀ j, (pm ops i).testBit j = true → L j) {K : Act → World → Prop} {Q : Exit → Act → World → Prop}
    (hK : Ok ops C i → ∀ Γ1 a1 w1 q1, Inv P sf fi ops n0 T0 S C Γ0 H0 w0 D (fun x => L x ∨ x = i) Γ1 a1 w1 q1 → K a1 w1)
    (hQ : ∀ v Hp, R = .panic v Hp → ∀ Γ1 w1 v', VR Γ1 w1 v v' → Rh Γ1 Hp w1 → GG n0 (resv P ops) Γ0 H0 w0 (fun f => L f ∧ Fr P fi ops S C f) Γ1 Hp w1 → (∀ u u', VR Γ w u u' → VR Γ1 w1 u u') → DsR Γ1 w1 D a.defers →
      Q (.panic [{ v := v', recovered := false }]) a w1) :
    wpOpIn (FO Γ0 ro) 0 P ops Q i K a w := by
  have hF := FO_gg I.gg h0 hro
  obtain ⟨hlk, htm⟩ := I.tmps W hL hi hLi hpre
  have hev : ∀ H, evOp P sf (hide fi ((oo ops i).looksAt ops) (S i).T) H (oo ops i) = evOp P sf (opd fi (S i).T) H (oo ops i) := fun H => evOp_hide
  have hwant : ∀ b, wantedI fi ops (S i).T (oo ops i) = some b → Region.wanted (oo ops i) (yielded ops a.tmps) = b := fun b hb =>
    wanted_at (fun g b' hg t ht => hlk t (List.mem_append_right _ (by simp [hg, ht]))) hb
  unfold wpOpIn
  rw [oo_get hi]
  simp only
  -- an operation of which the evaluator knows the outcome at a heap with blocks laid over
  have run : ∀ {l : List (Nat × IObj)} {res : OpRes} {K' : Act → World → Prop}, (∀ p ∈ l, Free P fi ops S C L p.1 ∧ p.2 = obOf P sf fi ops n0 S p.1) → evOp P sf (opd fi (S i).T) (overlay n0 l (S q).H) (oo ops i) = some res → (∀ d H, res ≠ .defer d H) →
      OpK Γ (overlay n0 l (S q).H) w a (oo ops i) K' Q res → (oo ops i).wpIn (FO Γ0 ro) 0 P a w K' Q := by
    intro l res K' hl he hnd hk
    rw [← hF]
    exact op_sound Sd hng (I.apart hl).2 htm (by rw [hev]; exact he) (fun d H e => absurd e (hnd d H)) hk
  have hcase : Ok ops C i ∨ (i = C ∧ C < ops.size) := by
    rcases W.cases i hi with h | h | ⟨h1, h2, -⟩
    · exact .inl h
    · exact .inr h
    · exact absurd (hL.ok _ (hpre C h2)) not_ok_C
  rcases hcase with hok | ⟨rfl, hC⟩
  · -- the same link comes next
    have stay : ∀ {v v' : Value} {Γ1 : Ga} {w1 : World}, (S (i + 1)).T = putT fi (S i).T (oo ops i).dst v → ¬ Chx P fi ops S C i → ¬ Fr P fi ops S C i → VR Γ1 w1 v v' → Rh Γ1 (S q).H w1 → Ext Γ (S q).H w Γ1 (S q).H w1 → K (a.put (oo ops i).dst v') w1 := by
      intro v v' Γ1 w1 hT hnc hnf hv hr1 hE
      refine hK hok Γ1 _ w1 q (I.go W h0 hi hnf hT (l := []) (fun p hp => by cases hp) (fun f _ p hp => by cases hp) hE hr1 hv I.qle (fun x hx hc => .inl (I.before x hx hc)) (fun hq => ⟨(I.at_ hq).1, ?_⟩) rfl)
      rintro (h | rfl)
      · exact (I.at_ hq).2 h
      · exact hnc (I.at_ hq).1
    have notC : ¬ (i = C ∧ C < ops.size) := by rintro ⟨rfl, -⟩; exact not_ok_C hok
    cases W.step hok with
    | off h e =>
      rw [hwant _ h, if_neg (by simp)]
      have hoff : ¬ On fi ops S i := by unfold On; rw [h]; intro x; cases x
      exact ⟨fun f _ => FO_fn _ f, stay (by rw [e]) (fun hc => hc.elim (fun x => hoff x.2.2) notC) (fun hf => hoff hf.2.2) .undef I.rh (.refl _ _ _)⟩
    | pure h k v H1 he e =>
      rw [hwant _ h, if_pos rfl]
      obtain ⟨v0, hv0, hany⟩ := pure_any k _ _ he
      cases hv0
      exact run (l := []) (fun p hp => by cases hp) (hany _) (fun d H x => by cases x) fun Γ1 w1 v' hv hr1 hE =>
        stay (by rw [e]) (fun hc => hc.elim (fun x => by have := x.2.1; rw [k] at this; cases this) notC) (fun hf => by have := hf.2.1; rw [k] at this; cases this) hv hr1 hE
    | read h k v0 H2 he0 hs e =>
      rw [hwant _ h, if_pos rfl]
      obtain ⟨v, v1, H3, H4, he, hT, he2, hsame⟩ := W.read_at hok k h hLi hpre (fun x j h _ => hL.cl x j h) I.qle I.before I.at_
      have hvv : v1 = v := hsame.elim id fun x => (sameV_eq x).symm
      have hkeep : H4 = (S q).H := read_keep k _ _ _ he2
      subst hkeep; subst hvv
      exact run (l := []) (fun p hp => by cases hp) he2 (fun d H x => by cases x) fun Γ1 w1 v' hv hr1 hE =>
        stay hT (fun hc => hc.elim (fun x => by have := x.2.1; rw [k] at this; cases this) notC) (fun hf => by have := hf.2.1; rw [k] at this; cases this) hv hr1 hE
    | fresh h k v H2 ob he hb e =>
      rw [hwant _ h, if_pos rfl]
      obtain ⟨vf, ob', hnv, hall⟩ := fresh_new k _ _ _ he
      have hfr : Fr P fi ops S C i := ⟨hok, k, h⟩
      have heq := hall { (S i).H with n := n0 + i }
      simp only at heq he
      rw [he] at heq
      simp only [Option.some.injEq, OpRes.val.injEq] at heq
      obtain ⟨rfl, rfl⟩ := heq
      have hob : ob' = obOf P sf fi ops n0 S i := by
        unfold obOf
        rw [he]
        simp only [IH.get_new]
        rfl
      obtain ⟨hpl, hnd⟩ := plain_of_kind (o := oo ops i) (P := P) (by rw [k]; intro x; cases x)
      obtain ⟨v', w1, hrr, Γ2, I2⟩ := I.lay W h0 hL hLi hfr hnv hob (by rw [e]) (rr := (execOp a.eval (oo ops i)).run P w)
        (fun Γ' H' hr' ht' => evOp_good hr' ht' hpl (by rw [hev]; exact hall H')) htm
      refine ⟨fun f _ => FO_fn _ f, ?_⟩
      rw [FO_semAt (.inl hnd), hrr]
      exact hK hok Γ2 _ w1 q I2
    | chain h k v H2 res hc hres he hr e =>
      rw [hwant _ h, if_pos rfl]
      have hch : Chx P fi ops S C i := .inl ⟨hok, k, h⟩
      have hqi : q = i := I.q_of W hL hch hi hLi hpre
      subst hqi
      have htk := I.taken W hL hi hpre
      obtain ⟨q', g1, g2, g3, g4⟩ := nextq (P := P) (fi := fi) (S := S) (C := C) (q + 1) hi
      have hH : (S q').H = H2 := by
        rw [W.H_keep q' (q + 1) g1 g2 fun x h1 h2 h3 => g3 x h1 h2 (.inl h3), e]
      have fin : ∀ {v' : Value} {Γ1 : Ga} {w1 : World}, VR Γ1 w1 v v' → Rh Γ1 H2 w1 → Ext Γ (overlay n0 ((S q).pend.filter fun x => (pm ops q).testBit x.1) (S q).H) w Γ1 H2 w1 → K (a.put (oo ops q).dst v') w1 := by
        intro v' Γ1 w1 hv hr1 hE
        refine hK hok Γ1 _ w1 q' (I.go W h0 hi (fun hf => by have := hf.2.1; rw [k] at this; cases this) (by rw [e]) (fun p hp => (htk p hp).2) (fun f hf p hp e1 => ?_) hE hr1 hv g2 (fun x hx hcx => ?_) (fun hq => ⟨g4 hq, ?_⟩) hH)
        · have := hf.2.2 q ⟨hok, k, h⟩ (.inr rfl)
          rw [← e1, (htk p hp).1] at this; cases this
        · rcases Nat.lt_trichotomy x q with h' | h' | h'
          · exact .inl (I.before x h' hcx)
          · exact .inr h'
          · exact absurd hcx (g3 x (by omega) hx)
        · rintro (h' | h')
          · exact hLi (hL.cl q' q h' (W.chain_bit hch (g4 hq) (by omega)))
          · omega
      rcases hres with rfl | ⟨rfl, rfl⟩
      · exact run (fun p hp => (htk p hp).2) he (fun d H x => by cases x) fun Γ1 w1 v' hv hr1 hE => fin hv hr1 hE
      · exact run (fun p hp => (htk p hp).2) he (fun d H x => by cases x) fun Γ1 w1 hr1 hE => fin .undef hr1 hE
  · obtain ⟨v, Hp, hR, hp, -⟩ := W.pan hC
    rw [hwant _ hp.wanted, if_pos rfl]
    have hqi : q = i := I.q_of W hL (.inr ⟨rfl, hC⟩) hi hLi hpre
    subst hqi
    have htk := I.taken W hL hi hpre
    refine run (fun p hp => (htk p hp).2) hp.ev (fun d H x => by cases x) fun Γ1 w1 v' hv hr1 hE => ?_
    obtain ⟨ha, hro'⟩ := I.apart (fun p hp => (htk p hp).2)
    have hle := hE.le hro'
    exact hQ v Hp hR Γ1 w1 v' hv hr1 (I.gg.go h0 I.rh ha hE) (fun u u' x => x.mono hle hE.same) (I.df.mono hle hE.same)

/-- All that may come next, to the end. -/
theorem Walk.any (Sd : Sound P sf) (hng : noNG P = true) (h0 : Rh Γ0 H0 w0) {ro : Option Nat} (hro : RoOK Γ0 ro) {Q : Exit → Act → World → Prop}
    (hN : ∀ L Γ a w q, Lset ops C L → Inv P sf fi ops n0 T0 S C Γ0 H0 w0 D L Γ a w q → (∀ i, i < ops.size → L i) → Q .normal a w)
    (hQ : ∀ L Γ a w q, Lset ops C L → Inv P sf fi ops n0 T0 S C Γ0 H0 w0 D L Γ a w q → ∀ v Hp, R = .panic v Hp → ∀ Γ1 w1 v', VR Γ1 w1 v v' → Rh Γ1 Hp w1 → GG n0 (resv P ops) Γ0 H0 w0 (fun f => L f ∧ Fr P fi ops S C f) Γ1 Hp w1 →
      (∀ u u', VR Γ w u u' → VR Γ1 w1 u u') → DsR Γ1 w1 D a.defers → Q (.panic [{ v := v', recovered := false }]) a w1) :
    ∀ (fuel : Nat) (listed : Array Bool) (L : Nat → Prop) (Γ : Ga) (a : Act) (w : World) (q : Nat), listed.size = ops.size → listed.toList.countP (fun b => !b) ≤ fuel → (∀ i, i < ops.size → (listed.getD i false = true ↔ L i)) → Lset ops C L →
      Inv P sf fi ops n0 T0 S C Γ0 H0 w0 D L Γ a w q → wpAnyIn (FO Γ0 ro) 0 P .any ops Q fuel listed a w := by
  have getD_eq : ∀ (listed : Array Bool) (i : Nat), listed.size = ops.size → i < ops.size → listed.getD i true = listed.getD i false := by
    intro listed i h1 h2; simp [h1, h2]
  have all : ∀ (listed : Array Bool) (L : Nat → Prop), listed.size = ops.size → (∀ i, i < ops.size → (listed.getD i false = true ↔ L i)) → Region.ready .any ops listed = [] → ∀ i, i < ops.size → L i := by
    intro listed L hsz hlist hr i
    induction i using Nat.strongRecOn with
    | _ i ih =>
      intro hi
      rw [← hlist i hi]
      cases hb : listed.getD i false with
      | true => rfl
      | false =>
        exfalso
        have : i ∈ Region.ready .any ops listed := by
          rw [mem_ready]
          refine ⟨by rw [getD_eq listed i hsz hi]; exact hb, _, oo_get hi, fun e he hbe => ?_⟩
          have hlt := W.back i _ (oo_get hi) e he hbe
          exact (hlist e.on (by omega)).2 (ih e.on hlt (by omega))
        rw [hr] at this; cases this
  intro fuel
  induction fuel with
  | zero =>
    intro listed L Γ a w q hsz hcnt hlist hL I
    have hr : Region.ready .any ops listed = [] := by
      cases hr : Region.ready .any ops listed with
      | nil => rfl
      | cons i rs =>
        exfalso
        have hmem : i ∈ Region.ready .any ops listed := by rw [hr]; exact List.mem_cons_self
        obtain ⟨h1, o, h2, -⟩ := mem_ready.1 hmem
        have hi : i < listed.size := by rw [hsz]; exact (Array.getElem?_eq_some_iff.1 h2).1
        have : 0 < listed.toList.countP (fun b => !b) := List.countP_pos_iff.2 ⟨listed[i], by simp, by simpa [hi] using h1⟩
        omega
    exact ⟨hr, hN L Γ a w q hL I (all listed L hsz hlist hr)⟩
  | succ fuel ih =>
    intro listed L Γ a w q hsz hcnt hlist hL I
    refine ⟨fun hr => hN L Γ a w q hL I (all listed L hsz hlist hr), fun i hi => ?_⟩
    obtain ⟨h1, o, h2, h3⟩ := mem_ready.1 hi
    have his : i < ops.size := (Array.getElem?_eq_some_iff.1 h2).1
    have hfalse : listed.getD i false = false := by rw [← getD_eq listed i hsz his]; exact h1
    have hLi : ¬ L i := fun h => by rw [(hlist i his).2 h] at hfalse; cases hfalse
    have hpre : ∀ j, (pm ops i).testBit j = true → L j := by
      intro j hj
      obtain ⟨e, he, hbe, h⟩ := (pm_bit W.back h2).1 hj
      have hlt := W.back i o h2 e he hbe
      have hLe : L e.on := (hlist e.on (by omega)).1 (h3 e he hbe)
      rcases h with rfl | h
      · exact hLe
      · exact hL.cl _ _ hLe h
    refine W.one Sd hng h0 hro hL I his hLi hpre (fun hok Γ1 a1 w1 q1 I1 => ?_) (fun v Hp hR Γ1 w1 v' => hQ L Γ a w q hL I v Hp hR Γ1 w1 v')
    refine ih _ _ Γ1 a1 w1 q1 (by simpa using hsz) ?_ (fun j hj => ?_) (lset_add hL hok hpre) I1
    · have hlt : i < listed.toList.length := by simpa [hsz] using his
      have hval : listed.toList[i] = false := by
        have : i < listed.size := by rw [hsz]; exact his
        simpa [this] using hfalse
      rw [Array.toList_setIfInBounds, List.countP_set hlt]
      simp only [hval]
      generalize hcn : listed.toList.countP (fun b => !b) = cn at *
      have : 0 < cn := by rw [← hcn]; exact List.countP_pos_iff.2 ⟨_, List.getElem_mem hlt, by simp [hval]⟩
      simp; omega
    · by_cases hij : i = j
      · subst hij
        simp [hsz, his]
      · rw [getD_set_ne false hij, hlist j hj]
        constructor
        · exact .inl
        · rintro (h | h)
          · exact h
          · exact absurd h.symm hij
end

theorem poisonAll_get {fi : FI} : ∀ (l : List Oper) (T : En) (t : Nat), lkE fi (poisonAll fi l T) t = poison ∨ (lkE fi (poisonAll fi l T) t = lkE fi T t ∧ ∀ o ∈ l, o.dst ≠ some t) := by
  intro l
  induction l with
  | nil => intro T t; exact .inr ⟨rfl, fun o ho => by cases ho⟩
  | cons o l ih =>
    intro T t
    simp only [poisonAll]
    rcases ih (putT fi T o.dst poison) t with h1 | ⟨h1, h2⟩
    · exact .inl h1
    · by_cases hd : o.dst = some t
      · left
        rw [h1, hd]
        rcases Nat.lt_or_ge t fi.nt with ht | ht
        · exact putT_eq _ _ ht
        · exact lkE_out _ ht
      · rw [h1, putT_ne _ hd]
        refine .inr ⟨rfl, fun x hx => ?_⟩
        rcases List.mem_cons.1 hx with e | hx
        · rw [e]; exact hd
        · exact h2 x hx

variable {P : Program}

theorem draw_ok (hm : P.follows .mixedOrders = true) (hng : noNG P = true) : ∀ sf, Sound P sf → DrawOK P sf := by
  intro sf Sd fi ro id ops T H D r Γ w a h hro hst
  refine wpIn_region_any hm ?_
  -- behind the draw
  have hw : ({ w with drawn := w.drawn + 1 } : World) = w.drew := rfl
  rw [hw]
  obtain ⟨hRd, hEd⟩ := hst.rh.drew
  have hstd := hst.ext hRd hEd
  unfold evDraw at h
  simp only at h
  split at h
  · rename_i hstat
    obtain ⟨hback, huniq, hlooks⟩ := okStatic_spec hstat
    generalize hev : evDrawOps P sf fi ops H.n ops.toList 0 (predsOf ops.toList []) ⟨T, { H with n := H.n + resv P ops }, [], [], []⟩ none = R at h
    have hne : R ≠ .fail := by rintro rfl; cases h
    obtain ⟨S, C, hS0, hTr⟩ := trace_of hev hne
    have W : Walk P sf fi ops H.n T { H with n := H.n + resv P ops } S C R := ⟨hTr, hS0, hback, huniq, hlooks⟩
    have key : wpAnyIn (FO Γ ro) 0 P .any ops (Post Γ H w fi r) ops.size (Array.replicate ops.size false) a w.drew := by
      obtain ⟨q, -, q2, q3, q4⟩ := nextq (P := P) (fi := fi) (ops := ops) (S := S) (C := C) 0 (Nat.zero_le _)
      have hSq : (S q).H = { H with n := H.n + resv P ops } := by
        rw [W.H_keep q 0 (Nat.zero_le _) q2 fun x h1 h2 h3 => q3 x h1 h2 (.inl h3), hS0]
      have hR0 : Rh Γ { H with n := H.n + resv P ops } w.drew := ⟨fun b hb => by have := hRd.dom b hb; show b < H.n + resv P ops; omega, by have := hRd.ro; show roN ≤ H.n + resv P ops; omega, hRd.glob, hRd.live, hRd.inj, hRd.obj⟩
      refine W.any (D := D) (H0 := H) (w0 := w.drew) (Γ0 := Γ) Sd hng hRd hro ?_ ?_ ops.size _ (fun _ => False) Γ a w.drew q (by simp) (by have := List.countP_le_length (p := fun b => !b) (l := (Array.replicate ops.size false).toList); simpa using this) (fun i hi => by simp [hi]) ⟨fun x h => h.elim, fun x j h _ => h.elim⟩ ?_
      · -- the end
        intro L Γ1 a1 w1 q1 hL I hall
        have hC : C = ops.size := by
          rcases Nat.lt_or_ge C ops.size with h' | h'
          · exact absurd (hL.ok C (hall C h')) not_ok_C
          · have := hTr.cle; omega
        have hq : q1 = ops.size := by
          rcases Nat.lt_or_ge q1 ops.size with h' | h'
          · exact absurd (hall q1 h') (I.at_ h').2
          · have := I.qle; omega
        subst hq
        rw [hTr.fin hC] at h
        cases h
        have hl : ∀ p ∈ (S ops.size).pend, Free P fi ops S C L p.1 ∧ p.2 = obOf P sf fi ops H.n S p.1 := by
          rintro ⟨f, ob⟩ hp
          obtain ⟨g1, g2, g3, g4⟩ := (W.pend ops.size (Nat.le_refl _) f ob).1 hp
          exact ⟨⟨hall f g1, g2, fun x hx _ => g4 x hx.1.1 hx⟩, g3⟩
        obtain ⟨ha, hrh⟩ := I.apart hl
        have hgg := I.gg.overlay hRd ha
        refine Post.after hEd ⟨Γ1.fill H.n (resv P ops), .normal, ⟨hrh.fill hgg.nle, ?_, I.df.mono (Γ1.le_fill _ _) (.refl _)⟩, hgg.fill⟩
        refine ⟨I.len, fun t => ?_⟩
        have htl : tl fi ops S T L t = lkE fi (S ops.size).T t := by
          unfold tl
          split
          · rfl
          · rename_i hno
            rw [W.T_keep ops.size 0 (Nat.zero_le _) (Nat.le_refl _) (fun x _ hx e => hno ⟨x, hall x hx, e⟩), hS0]
        have := I.tm t
        rw [htl] at this
        exact this.mono (Γ1.le_fill _ _) (.refl _)
      · -- a panic
        intro L Γ1 a1 w1 q1 hL I v Hp hR Γ2 w2 v' hv hr2 hgg hvr hdf
        subst hR
        cases h
        refine Post.after hEd ⟨Γ2.fill H.n (resv P ops), .panic (hv.mono (Γ2.le_fill _ _) (.refl _)), ⟨hr2.fill hgg.nle, ?_, hdf.mono (Γ2.le_fill _ _) (.refl _)⟩, hgg.fill⟩
        refine ⟨I.len, fun t => ?_⟩
        rcases poisonAll_get (fi := fi) ops.toList T t with h1 | ⟨h1, h2⟩
        · simp only [h1]; exact .poison _
        · have htl : tl fi ops S T L t = lkE fi T t := by
            unfold tl
            rw [if_neg]
            rintro ⟨j, hj, hd⟩
            refine h2 (oo ops j) ?_ hd
            have := oo_get (hL.ok j hj).1
            simpa using Array.mem_of_getElem? this
          have := I.tm t
          rw [htl] at this
          simp only [h1]
          exact (hvr _ _ this).mono (Γ2.le_fill _ _) (.refl _)
      · refine ⟨q2, fun x hx hc => absurd hc (q3 x (Nat.zero_le _) hx), fun hq => ⟨q4 hq, fun x => x⟩, by rw [hSq]; exact hR0, ?_, ?_, ?_, hstd.defs, fun f hf => hf.1.elim, fun f f' hf => hf.1.elim⟩
        · rw [hSq]
          refine ⟨rfl, Nat.le_refl _, fun _ _ => rfl, fun i => ⟨.inl, ?_⟩, Nat.le_refl _, rfl, rfl, rfl, .refl _, fun _ _ _ => rfl, fun _ _ x => x, fun _ _ o x => ⟨o, x⟩⟩
          rintro (x | ⟨f, -, ⟨x, -⟩, -⟩ | x)
          · exact x
          · exact x.elim
          · exact absurd x.2 (by show ¬ i < H.n + resv P ops; omega)
        · exact hst.tmps.size
        · intro t
          unfold tl
          rw [if_neg (by rintro ⟨j, hj, -⟩; exact hj)]
          exact hstd.tmps.get t
    exact key
  · cases h

end Go.Iv
