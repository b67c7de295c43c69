/- Regions that draw their order, the last part: whatever operation comes next, what is known goes on; so such a region comes to what the evaluator says. -/
import Derived.Test.YtoiiimbhfdnomaaDoorIvDrawC
import Derived.Test.YtoiiimbhfdnomaaDoorIvEv
namespace Go.Iv
open Go

/-- A set of operations that have run: with each all that must go ahead of it. -/
structure Lset (ops : Array Oper) (C : Nat) (L : Nat → Prop) : Prop where
  ok : ∀ x, L x → Ok ops C x
  cl : ∀ x j, L x → (pm ops x).testBit j = true → L j

open Classical in
/-- What a temporary holds. -/
noncomputable def tl (fi : FI) (ops : Array Oper) (S : Nat → DS) (T0 : En) (L : Nat → Prop) (t : Nat) : Value :=
  if ∃ j, L j ∧ (oo ops j).dst = some t then lkE fi (S ops.size).T t else lkE fi T0 t

/-- A block that no link of the chain has taken in yet. -/
def Free (P : Program) (fi : FI) (ops : Array Oper) (S : Nat → DS) (C : Nat) (L : Nat → Prop) (f : Nat) : Prop :=
  L f ∧ Fr P fi ops S C f ∧ ∀ x, Ch P fi ops S C x → L x → (pm ops x).testBit f = false

structure Inv (P : Program) (sf : Self) (fi : FI) (ops : Array Oper) (n0 : Nat) (T0 : En) (S : Nat → DS) (C : Nat) (Γ0 : Ga) (H0 : IH) (w0 : World) (D : List Deferred) (L : Nat → Prop) (Γ : Ga) (a : Act) (w : World) (q : Nat) : Prop where
  qle : q ≤ ops.size
  before : ∀ x, x < q → Chx P fi ops S C x → L x
  at_ : q < ops.size → Chx P fi ops S C q ∧ ¬ L q
  rh : Rh Γ (S q).H w
  gg : GG n0 (resv P ops) Γ0 H0 w0 (fun f => L f ∧ Fr P fi ops S C f) Γ (S q).H w
  len : a.tmps.size = fi.nt
  tm : ∀ t, VR Γ w (tl fi ops S T0 L t) (a.tmps.getD t Go.undef)
  df : DsR Γ w D a.defers
  side : ∀ f, Free P fi ops S C L f → Apart n0 Γ (S q).H w w0.heap.size f (obOf P sf fi ops n0 S f)
  dist : ∀ f f', Free P fi ops S C L f → Free P fi ops S C L f' → f ≠ f' → (Γ.φ (n0 + f)).1 ≠ (Γ.φ (n0 + f')).1

section
variable {P : Program} {sf : Self} {fi : FI} {ops : Array Oper} {n0 : Nat} {T0 : En} {Hs : IH} {S : Nat → DS} {C : Nat} {R : DR} (W : Walk P sf fi ops n0 T0 Hs S C R)
variable {Γ0 : Ga} {H0 : IH} {w0 : World} {D : List Deferred} {L : Nat → Prop} {Γ Γ1 : Ga} {a : Act} {w w1 : World} {q : Nat} {H1 : IH}

theorem Walk.uniq' (W : Walk P sf fi ops n0 T0 Hs S C R) {i j t : Nat} (hi : i < ops.size) (hj : j < ops.size) (h1 : (oo ops i).dst = some t) (h2 : (oo ops j).dst = some t) : i = j :=
  W.uniq i j _ _ t (oo_get hi) (oo_get hj) h1 h2

include W

theorem Walk.look (hL : Lset ops C L) {i t : Nat} (hi : i < ops.size) (hLi : ¬ L i) (hpre : ∀ j, (pm ops i).testBit j = true → L j) (ht : t ∈ (oo ops i).looksAt ops) : lkE fi (S i).T t = tl fi ops S T0 L t := by
  have none_ : ∀ k, k ≤ ops.size → (∀ x, x < k → (oo ops x).dst ≠ some t) → lkE fi (S k).T t = lkE fi T0 t := fun k hk h => by
    rw [W.T_keep k 0 (Nat.zero_le _) hk fun x _ hx => h x hx, W.start]
  unfold tl
  by_cases hw : ∃ j, j < ops.size ∧ (oo ops j).dst = some t
  · obtain ⟨j, hj, hd⟩ := hw
    rcases W.looks i j _ _ t (oo_get hi) (oo_get hj) hd ht with hb | hb
    · have hlt := W.bit_lt hi hb
      rw [if_pos ⟨j, hpre j hb, hd⟩]
      refine (W.T_keep ops.size i (by omega) (Nat.le_refl _) fun x h1 h2 e => ?_).symm
      have := W.uniq' h2 hj e hd; omega
    · have hlt := W.bit_lt hj hb
      rw [if_neg]
      · refine none_ i (by omega) fun x hx e => ?_
        have := W.uniq' (by omega) hj e hd; omega
      · rintro ⟨k, hk, hdk⟩
        have := W.uniq' (hL.ok k hk).1 hj hdk hd
        subst this
        exact hLi (hL.cl _ _ hk hb)
  · rw [if_neg]
    · exact none_ i (by omega) fun x hx e => hw ⟨x, by omega, e⟩
    · rintro ⟨k, hk, hdk⟩; exact hw ⟨k, (hL.ok k hk).1, hdk⟩

theorem Inv.tmps (hL : Lset ops C L) (I : Inv P sf fi ops n0 T0 S C Γ0 H0 w0 D L Γ a w q) {i : Nat} (hi : i < ops.size) (hLi : ¬ L i) (hpre : ∀ j, (pm ops i).testBit j = true → L j) :
    (∀ t ∈ (oo ops i).looksAt ops, VR Γ w (lkE fi (S i).T t) (a.tmps.getD t Go.undef)) ∧ ∀ x, VR Γ w (hide fi ((oo ops i).looksAt ops) (S i).T x) (a.eval x) := by
  have key : ∀ t ∈ (oo ops i).looksAt ops, VR Γ w (lkE fi (S i).T t) (a.tmps.getD t Go.undef) := fun t ht => by
    rw [W.look hL hi hLi hpre ht]; exact I.tm t
  refine ⟨key, fun x => ?_⟩
  cases x with
  | tmp t =>
    simp only [hide]
    split
    · rename_i h; exact key t (by simpa using h)
    · exact .poison _
  | const v =>
    simp only [hide, opd, Act.eval]
    split
    · rename_i h; exact .of_free h
    · exact .poison _
  | global g =>
    simp only [hide, opd, Act.eval]
    split
    · rename_i h
      have hg := I.rh.glob g h
      have := VR.ptr (w := w) (o := 0) hg.1
      simpa [Ga.at, hg.2] using this
    · exact .poison _
  | func f => exact .func rfl .nil .nil

theorem Walk.tl_add {i : Nat} {v : Value} (hi : i < ops.size) (hT : (S (i + 1)).T = putT fi (S i).T (oo ops i).dst v) {t : Nat} (ht : t < fi.nt) :
    tl fi ops S T0 (fun x => L x ∨ x = i) t = if (oo ops i).dst = some t then v else tl fi ops S T0 L t := by
  unfold tl
  by_cases hd : (oo ops i).dst = some t
  · rw [if_pos hd, if_pos ⟨i, .inr rfl, hd⟩, W.T_keep ops.size (i + 1) (by omega) (Nat.le_refl _), hT, hd, putT_eq _ _ ht]
    intro x h1 h2 e
    have := W.uniq' h2 hi e hd; omega
  · rw [if_neg hd]
    congr 1
    refine propext ⟨?_, ?_⟩
    · rintro ⟨j, hj | rfl, h⟩
      · exact ⟨j, hj, h⟩
      · exact absurd h hd
    · rintro ⟨j, hj, h⟩; exact ⟨j, .inl hj, h⟩

omit W in
theorem tl_out {t : Nat} (ht : fi.nt ≤ t) : tl fi ops S T0 L t = poison := by
  unfold tl
  split
  · exact lkE_out _ ht
  · exact lkE_out _ ht

omit W in
theorem put_size (a : Act) (d : Option Tmp) (v : Value) : (a.put d v).tmps.size = a.tmps.size := by cases d <;> simp [Act.put]
omit W in
theorem put_defs (a : Act) (d : Option Tmp) (v : Value) : (a.put d v).defers = a.defers := by cases d <;> rfl

theorem Inv.put (I : Inv P sf fi ops n0 T0 S C Γ0 H0 w0 D L Γ a w q) {i : Nat} {v v' : Value} (hi : i < ops.size) (hT : (S (i + 1)).T = putT fi (S i).T (oo ops i).dst v)
    (hg : ∀ u u', VR Γ w u u' → VR Γ1 w1 u u') (hv : VR Γ1 w1 v v') :
    ∀ t, VR Γ1 w1 (tl fi ops S T0 (fun x => L x ∨ x = i) t) ((a.put (oo ops i).dst v').tmps.getD t Go.undef) := by
  intro t
  rcases Nat.lt_or_ge t fi.nt with ht | ht
  · rw [W.tl_add hi hT ht]
    by_cases hd : (oo ops i).dst = some t
    · rw [if_pos hd, hd]
      simp only [Act.put]
      have : t < a.tmps.size := by rw [I.len]; exact ht
      simpa [Array.getD_eq_getD_getElem?, this] using hv
    · rw [if_neg hd]
      have e : (a.put (oo ops i).dst v').tmps.getD t Go.undef = a.tmps.getD t Go.undef := by
        cases hdd : (oo ops i).dst with
        | none => rfl
        | some d =>
          simp only [Act.put]
          have hne : d ≠ t := by rintro rfl; exact hd hdd
          simp [Array.getD_eq_getD_getElem?, Array.getElem?_setIfInBounds_ne hne]
      rw [e]
      exact hg _ _ (I.tm t)
  · rw [tl_out ht]; exact .poison _

omit W in
theorem lset_add (hL : Lset ops C L) {i : Nat} (hi : Ok ops C i) (hpre : ∀ j, (pm ops i).testBit j = true → L j) : Lset ops C (fun x => L x ∨ x = i) :=
  ⟨fun x h => h.elim (hL.ok x) (fun e => e ▸ hi), fun x j h hb => h.elim (fun h => .inl (hL.cl x j h hb)) (fun e => .inl (hpre j (e ▸ hb)))⟩

/-- An operation that lays no block. 'l': the blocks that it takes in. -/
theorem Inv.go (I : Inv P sf fi ops n0 T0 S C Γ0 H0 w0 D L Γ a w q) (h0 : Rh Γ0 H0 w0) {i : Nat} (hi : i < ops.size) (hnf : ¬ Fr P fi ops S C i) {v v' : Value} (hT : (S (i + 1)).T = putT fi (S i).T (oo ops i).dst v)
    {l : List (Nat × IObj)} (hl : ∀ p ∈ l, Free P fi ops S C L p.1 ∧ p.2 = obOf P sf fi ops n0 S p.1) (habs : ∀ f, Free P fi ops S C (fun x => L x ∨ x = i) f → ∀ p ∈ l, p.1 ≠ f)
    (hE : Ext Γ (overlay n0 l (S q).H) w Γ1 H1 w1) (hr1 : Rh Γ1 H1 w1) (hv : VR Γ1 w1 v v') {q' : Nat} (hq' : q' ≤ ops.size) (before' : ∀ x, x < q' → Chx P fi ops S C x → L x ∨ x = i)
    (at' : q' < ops.size → Chx P fi ops S C q' ∧ ¬ (L q' ∨ q' = i)) (hH : (S q').H = H1) :
    Inv P sf fi ops n0 T0 S C Γ0 H0 w0 D (fun x => L x ∨ x = i) Γ1 (a.put (oo ops i).dst v') w1 q' := by
  have ha : ∀ p ∈ l, Apart n0 Γ (S q).H w w0.heap.size p.1 p.2 := fun p hp => by
    obtain ⟨h1, h2⟩ := hl p hp
    rw [h2]; exact I.side _ h1
  have hro : Rh Γ (overlay n0 l (S q).H) w := overlay_rh I.rh l ha fun p hp p' hp' hne => I.dist _ _ (hl p hp).1 (hl p' hp').1 hne
  have hle := hE.le hro
  have free : ∀ f, Free P fi ops S C (fun x => L x ∨ x = i) f → Free P fi ops S C L f := fun f hf => by
    rcases hf.1 with h | rfl
    · exact ⟨h, hf.2.1, fun x h1 h2 => hf.2.2 x h1 (.inl h2)⟩
    · exact absurd hf.2.1 hnf
  have hgg := I.gg.go h0 I.rh ha hE
  have hLf : (fun f => L f ∧ Fr P fi ops S C f) = (fun f => (L f ∨ f = i) ∧ Fr P fi ops S C f) := by
    funext f
    refine propext ⟨fun h => ⟨.inl h.1, h.2⟩, ?_⟩
    rintro ⟨h | rfl, h2⟩
    · exact ⟨h, h2⟩
    · exact absurd h2 hnf
  rw [hLf] at hgg
  refine ⟨hq', before', at', by rw [hH]; exact hr1, by rw [hH]; exact hgg, by rw [put_size]; exact I.len, I.put W hi hT (fun u u' h => h.mono hle hE.same) hv, by rw [put_defs]; exact I.df.mono hle hE.same, fun f hf => ?_, fun f f' hf hf' hne => ?_⟩
  · rw [hH]
    exact (I.side f (free f hf)).go h0 I.gg I.rh ha hro hE hr1 fun p hp => I.dist _ _ (hl p hp).1 (free f hf) (habs f hf p hp)
  · have e1 := hle.φ _ (I.side f (free f hf)).dom
    have e2 := hle.φ _ (I.side f' (free f' hf')).dom
    rw [e1, e2]
    exact I.dist f f' (free f hf) (free f' hf') hne

/-- An operation that lays one block. -/
theorem Inv.lay (I : Inv P sf fi ops n0 T0 S C Γ0 H0 w0 D L Γ a w q) (h0 : Rh Γ0 H0 w0) {i : Nat} (hL : Lset ops C L) (hLi : ¬ L i) (hf : Fr P fi ops S C i) {rr : Result Next}
    {vf : Nat → Value} (hnv : NewV vf) {ob : IObj} (hob : ob = obOf P sf fi ops n0 S i) (hT : (S (i + 1)).T = putT fi (S i).T (oo ops i).dst (vf (n0 + i)))
    (hrun : ∀ (Γ' : Ga) (H' : IH), Rh Γ' H' w → (∀ x, VR Γ' w (hide fi ((oo ops i).looksAt ops) (S i).T x) (a.eval x)) → Good Γ' H' w rr (.val (vf H'.n) (H'.new ob)))
    (htm : ∀ x, VR Γ w (hide fi ((oo ops i).looksAt ops) (S i).T x) (a.eval x)) :
    ∃ v' w1, rr = .ok (.value v') w1 ∧ ∃ Γ2, Inv P sf fi ops n0 T0 S C Γ0 H0 w0 D (fun x => L x ∨ x = i) Γ2 (a.put (oo ops i).dst v') w1 q := by
  obtain ⟨v', w1, Γ1, hrr, hv1, hr1, hE1⟩ := hrun Γ (S q).H I.rh htm
  have hi := hf.1.1
  have hir := resv_lt hf
  have hge := h0.ro
  have hn0 := I.gg.n0e
  have hnle := I.gg.nle
  -- the other run: one id left out
  have hR' : Rh Γ { (S q).H with n := (S q).H.n + 1 } w := ⟨fun b hb => Nat.lt_succ_of_lt (I.rh.dom b hb), Nat.le_succ_of_le I.rh.ro, I.rh.glob, I.rh.live, I.rh.inj, I.rh.obj⟩
  obtain ⟨v2, w2, Γ2, hrr2, hv2, hr2, hE2⟩ := hrun Γ _ hR' htm
  rw [hrr] at hrr2
  cases hrr2
  refine ⟨v', w1, hrr, ?_⟩
  have rh := I.rh
  have gg := I.gg
  have side := I.side
  generalize hH : (S q).H = H at *
  have hle1 := hE1.le rh
  have hle2 := hE2.le hR'
  have hdn : ¬ Γ.dom H.n := fun x => by have := rh.dom _ x; omega
  have hdi : ¬ Γ.dom (n0 + i) := by
    intro x
    rcases (gg.dom _).1 x with x | ⟨f, -, h1, h2⟩ | x
    · have := h0.dom _ x; omega
    · have : f = i := by omega
      subst this; exact hLi h1.1
    · omega
  let Γ3 : Ga := { φ := fun j => if j = n0 + i then Γ1.φ H.n else Γ.φ j, dom := fun j => Γ.dom j ∨ j = n0 + i }
  have e3 : Γ3.φ (n0 + i) = Γ1.φ H.n := by simp [Γ3]
  have o3 : ∀ j, j ≠ n0 + i → Γ3.φ j = Γ.φ j := fun j h => by simp [Γ3, h]
  have both : ∀ j, Γ1.dom j → Γ2.dom j → Γ3.dom j ∧ Γ3.φ j = Γ1.φ j := by
    intro j h1 h2
    have hd : Γ.dom j := by
      rcases (hE1.dom j).1 h1 with x | x
      · exact x
      · rcases (hE2.dom j).1 h2 with y | y
        · exact y
        · simp only [IH.n_new] at x y; omega
    have hne : j ≠ n0 + i := by rintro rfl; exact hdi hd
    exact ⟨.inl hd, by rw [o3 j hne, hle1.φ j hd]⟩
  have hle3 : Γ.le Γ3 := ⟨fun j h => .inl h, fun j h => o3 j (by rintro rfl; exact hdi h)⟩
  have live1 : ∀ b o, H.get b = some o → (H.new ob).get b = some o ∧ (({ H with n := H.n + 1 } : IH).new ob).get b = some o := by
    intro b o hb
    have := rh.dom b (rh.live b o hb)
    refine ⟨by rw [IH.get_new, if_neg (by omega)]; exact hb, ?_⟩
    rw [IH.get_new, if_neg (by show ¬ b = H.n + 1; omega)]; exact hb
  have hobj : ∀ b o, H.get b = some o → ObjR Γ3 w1 b o := by
    intro b o hb
    have hd := rh.live b o hb
    obtain ⟨g1, g2⟩ := live1 b o hb
    exact (hr1.obj b o g1).restrict both (by rw [hle3.φ b hd, hle1.φ b hd]) (fun x => x) (hr2.obj b o g2)
  have hnew : ObjR Γ3 w1 (n0 + i) ob :=
    (hr1.obj H.n ob (by rw [IH.get_new, if_pos rfl])).restrict both e3 (fun _ => rh.ro) (hr2.obj (H.n + 1) ob (by rw [IH.get_new]; exact if_pos rfl))
  have hv3 : VR Γ3 w1 (vf (n0 + i)) v' := by
    have hd3 : Γ3.dom (n0 + i) := .inr rfl
    cases hnv with
    | ptr =>
      simp only [ptrTo] at hv1 ⊢
      cases hv1 with | ptr h => rw [show Γ1.at H.n 0 = Γ3.at (n0 + i) 0 by simp [Ga.at, e3]]; exact .ptr hd3
    | slice l c =>
      generalize hx : Value.slice (some ⟨H.n, 0, none⟩) l c = x at hv1
      cases hv1 <;> cases hx
      · rename_i h hc ha hl; exact .slice hd3 hc hl (ha.imp (fun x => ⟨x.1, x.2.trans (by rw [e3])⟩) fun x => x.trans (by simp [Ga.at, e3]))
      · rename_i h hl hr; exact .sliceU hd3 hl (hr.imp (fun x => ⟨x.1, x.2.1, x.2.2.trans (by rw [e3])⟩) fun x => ⟨x.1.trans (by simp [Ga.at, e3]), x.2⟩)
    | map =>
      cases hv1 with | map h => rw [← e3]; exact .map hd3
  have hImg1 : ∀ b, Img Γ3 H b → Img Γ1 (H.new ob) b := by
    rintro b ⟨j, o, h1, h2, h3⟩
    have hd := rh.live j o h2
    exact ⟨j, o, h1, (live1 j o h2).1, by rw [hle1.φ j hd, ← hle3.φ j hd]; exact h3⟩
  have newlive : (H.new ob).get H.n = some ob := by rw [IH.get_new, if_pos rfl]
  have notlive : ∀ j o, H.get j = some o → (Γ.φ j).1 ≠ (Γ1.φ H.n).1 := by
    intro j o hj e
    have hd := rh.live j o hj
    have := hr1.inj j H.n o ob (live1 j o hj).1 newlive (by rw [hle1.φ j hd]; exact e)
    have := rh.dom j hd; omega
  have lowb : w0.heap.size ≤ (Γ1.φ H.n).1 := by
    rcases Nat.lt_or_ge (Γ1.φ H.n).1 w0.heap.size with x | x
    · obtain ⟨j, o, h1, h2, h3⟩ := hE1.imgs _ (Nat.lt_of_lt_of_le x gg.size) ⟨H.n, ob, rh.ro, newlive, rfl⟩
      exact absurd h3 (notlive j o h2)
    · exact x
  have hr3 : Rh Γ3 H w1 := by
    refine ⟨?_, rh.ro, fun g hg => ⟨.inl (rh.glob g hg).1, (hle3.φ g (rh.glob g hg).1).trans (rh.glob g hg).2⟩, fun b o hb => .inl (rh.live b o hb), fun b b' o o' hb hb' e => ?_, hobj⟩
    · rintro b (hb | rfl)
      · exact rh.dom b hb
      · omega
    · rw [hle3.φ b (rh.live b o hb), hle3.φ b' (rh.live b' o' hb')] at e
      exact rh.inj b b' o o' hb hb' e
  have isImg : ∀ b, Img Γ H b ↔ Img Γ3 H b := fun b => by
    constructor
    · rintro ⟨j, o, h1, h2, h3⟩; exact ⟨j, o, h1, h2, by rw [hle3.φ j (rh.live j o h2)]; exact h3⟩
    · rintro ⟨j, o, h1, h2, h3⟩; exact ⟨j, o, h1, h2, by rw [← hle3.φ j (rh.live j o h2)]; exact h3⟩
  have old : ∀ f, Free P fi ops S C (fun x => L x ∨ x = i) f → f ≠ i → Free P fi ops S C L f := fun f hf hne => by
    rcases hf.1 with h | rfl
    · exact ⟨h, hf.2.1, fun x h1 h2 => hf.2.2 x h1 (.inl h2)⟩
    · exact absurd rfl hne
  have sideNe : ∀ f, Free P fi ops S C L f → (Γ.φ (n0 + f)).1 ≠ (Γ1.φ H.n).1 := by
    intro f hf e
    have hs := side f hf
    obtain ⟨j, o, h1, h2, h3⟩ := hE1.imgs (Γ.φ (n0 + f)).1 hs.obj.lt ⟨H.n, ob, rh.ro, newlive, e.symm⟩
    exact hs.ne j o h2 h3
  have φf : ∀ f, f ≠ i → Γ3.φ (n0 + f) = Γ.φ (n0 + f) := fun f h => o3 _ (by omega)
  have hgg : GG n0 (resv P ops) Γ0 H0 w0 (fun f => (L f ∨ f = i) ∧ Fr P fi ops S C f) Γ3 H w1 := by
    refine ⟨hn0, hnle, fun j hj => ?_, fun j => ?_, Nat.le_trans gg.size hE1.size, hE1.os.trans gg.os, hE1.tape.trans gg.tape, hE1.output.trans gg.output, gg.same.trans hE1.same, fun b hb hni => ?_, fun b hb hbi => gg.imgs b hb ((isImg b).2 hbi), gg.rol⟩
    · rw [o3 j (by omega)]; exact gg.φ j hj
    · simp only [Γ3, gg.dom]
      constructor
      · rintro ((x | ⟨f, h1, h2, h3⟩ | x) | rfl)
        · exact .inl x
        · exact .inr (.inl ⟨f, h1, ⟨.inl h2.1, h2.2⟩, h3⟩)
        · exact .inr (.inr x)
        · exact .inr (.inl ⟨i, hir, ⟨.inr rfl, hf⟩, rfl⟩)
      · rintro (x | ⟨f, h1, ⟨h2 | rfl, h4⟩, h3⟩ | x)
        · exact .inl (.inl x)
        · exact .inl (.inr (.inl ⟨f, h1, ⟨h2, h4⟩, h3⟩))
        · exact .inr h3
        · exact .inl (.inr (.inr x))
    · rw [hE1.keep b (Nat.lt_of_lt_of_le hb gg.size) (fun x => hni (gg.imgs b hb x)), gg.keep b hb hni]
  refine ⟨Γ3, I.qle, fun x hx hc => .inl (I.before x hx hc), fun hq => ⟨(I.at_ hq).1, ?_⟩, by rw [hH]; exact hr3, by rw [hH]; exact hgg, by rw [put_size]; exact I.len,
    I.put W hi hT (fun u u' h => h.mono hle3 hE1.same) hv3, by rw [put_defs]; exact I.df.mono hle3 hE1.same, fun f hf' => ?_, fun f f' hf1 hf2 hne => ?_⟩
  · rintro (h | rfl)
    · exact (I.at_ hq).2 h
    · rcases (I.at_ hq).1 with h | ⟨rfl, -⟩
      · have := h.2.1; rw [hf.2.1] at this; cases this
      · exact not_ok_C hf.1
  · rw [hH]
    by_cases hfi : f = i
    · subst hfi
      rw [← hob]
      exact ⟨.inr rfl, hnew, by rw [e3]; exact lowb, fun j x hj => by rw [e3, hle3.φ j (rh.live j x hj)]; exact notlive j x hj⟩
    · have hs := side f (old f hf' hfi)
      refine ⟨.inl hs.dom, hs.obj.mono hle3 hE1.same hs.dom ?_, by rw [φf f hfi]; exact hs.low, fun j x hj => by rw [φf f hfi, hle3.φ j (rh.live j x hj)]; exact hs.ne j x hj⟩
      refine hE1.keep _ hs.obj.lt ?_
      rintro ⟨j, o, -, h2, h3⟩
      exact hs.ne j o h2 h3
  · by_cases h1 : f = i <;> by_cases h2 : f' = i
    · omega
    · subst h1; rw [e3, φf f' h2]; exact fun e => sideNe f' (old f' hf2 h2) e.symm
    · subst h2; rw [e3, φf f h1]; exact sideNe f (old f hf1 h1)
    · rw [φf f h1, φf f' h2]; exact I.dist f f' (old f hf1 h1) (old f' hf2 h2) hne
end

end Go.Iv
