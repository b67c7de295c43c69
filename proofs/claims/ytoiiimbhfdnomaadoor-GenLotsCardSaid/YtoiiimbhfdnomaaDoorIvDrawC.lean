/- Regions that draw their order, the third part: heaps with blocks that lie apart; a new block under a kept id. -/
import Derived.Test.YtoiiimbhfdnomaaDoorIvDrawB
namespace Go.Iv
open Go

/-! ### Values that are one -/
theorem bl_inj {a b : ByteArray} (h : bl a = bl b) : a = b := by
  cases a; cases b
  simp only [bl] at h
  rw [Array.toList_inj.1 h]

theorem same1_eq {a b : Value} (h : same1 a b = true) : a = b := by
  unfold same1 at h
  split at h
  · simp at h; rw [h]
  · simp at h; rw [h.1, h.2]
  · simp at h; rw [bl_inj h]
  · simp at h; rw [h]
  · simp at h; rw [h.1.1, h.1.2, h.2]
  · simp at h; rw [h]
  · rfl
  · rfl
  · cases h

theorem sameL_eq : ∀ {a b : List Value}, sameL a b = true → a = b := by
  intro a
  induction a with
  | nil => intro b h; cases b with
    | nil => rfl
    | cons => simp [sameL] at h
  | cons x a ih =>
    intro b h
    cases b with
    | nil => simp [sameL] at h
    | cons y b =>
      simp only [sameL, Bool.and_eq_true] at h
      rw [same1_eq h.1, ih h.2]

theorem sameV_eq {a b : Value} (h : sameV a b = true) : a = b := by
  unfold sameV at h
  split at h
  · rw [Array.toList_inj.1 (sameL_eq h)]
  · rw [Array.toList_inj.1 (sameL_eq h)]
  · simp only [Bool.and_eq_true, beq_iff_eq] at h
    rw [h.1.1, Array.toList_inj.1 (sameL_eq h.1.2), Array.toList_inj.1 (sameL_eq h.2)]
  · exact same1_eq h

/-! ### What both know -/
section restrict
variable {Γ1 Γ2 Γ3 : Ga} {w w' : World}

theorem VR.sdom {Γ : Ga} {v v' : Value} (h : VR Γ w v v') {b o l c : Nat} (e : v = .slice (some ⟨b, o, none⟩) l c) : Γ.dom b := by
  cases h <;> cases e <;> assumption

mutual
theorem VR.restrict (hg : ∀ i, Γ1.dom i → Γ2.dom i → Γ3.dom i ∧ Γ3.φ i = Γ1.φ i) {v v' v'' : Value} (h : VR Γ1 w v v') (k : VR Γ2 w' v v'') : VR Γ3 w v v' := by
  cases h with
  | bool b => exact .bool b
  | int kk n => exact .int kk n
  | float kk n => exact .float kk n
  | complex kk n m => exact .complex kk n m
  | string s => exact .string s
  | pnil => exact .pnil
  | @ptr b o h => cases k with | ptr h2 => obtain ⟨h3, h4⟩ := hg _ h h2; rw [show Γ1.at b o = Γ3.at b o by simp [Ga.at, h4]]; exact .ptr h3
  | snil => exact .snil
  | @slice b o l c a h hc hl ha =>
    have h2 : Γ2.dom b := k.sdom rfl
    obtain ⟨h3, h4⟩ := hg _ h h2
    exact .slice h3 hc hl (ha.imp (fun x => ⟨x.1, x.2.trans (by rw [h4])⟩) fun x => x.trans (by simp [Ga.at, h4]))
  | @sliceU b o l s c a h hl hr =>
    have h2 : Γ2.dom b := k.sdom rfl
    obtain ⟨h3, h4⟩ := hg _ h h2
    exact .sliceU h3 hl (hr.imp (fun x => ⟨x.1, x.2.1, x.2.2.trans (by rw [h4])⟩) fun x => ⟨x.1.trans (by simp [Ga.at, h4]), x.2⟩)
  | mnil => exact .mnil
  | @map r h => cases k with | map h2 => obtain ⟨h3, h4⟩ := hg _ h h2; rw [← h4]; exact .map h3
  | cnil => exact .cnil
  | func hf ha hc =>
    cases k with
    | func hf2 ha2 hc2 => exact .func hf (ha.restrict hg ha2) (hc.restrict hg hc2)
    | yield => cases hf
  | @yield l h =>
    have h2 : Γ2.dom l := by
      cases k with
      | func hf => cases hf
      | yield h2 => exact h2
    obtain ⟨h3, h4⟩ := hg _ h h2; rw [← h4]; exact .yield h3
  | nilFunc => exact .nilFunc
  | iface t h => cases k with | iface _ h2 => exact .iface t (h.restrict hg h2)
  | nilIface => exact .nilIface
  | agg h => cases k with | agg h2 => exact .agg (h.restrict hg h2)
  | tuple h => cases k with | tuple h2 => exact .tuple (h.restrict hg h2)
  | poison v' => exact .poison v'
theorem VRs.restrict (hg : ∀ i, Γ1.dom i → Γ2.dom i → Γ3.dom i ∧ Γ3.φ i = Γ1.φ i) {l l' l'' : List Value} (h : VRs Γ1 w l l') (k : VRs Γ2 w' l l'') : VRs Γ3 w l l' := by
  cases h with
  | nil => exact .nil
  | cons h t => cases k with | cons h2 t2 => exact .cons (h.restrict hg h2) (t.restrict hg t2)
end

theorem EntR.restrict (hg : ∀ i, Γ1.dom i → Γ2.dom i → Γ3.dom i ∧ Γ3.φ i = Γ1.φ i) {l l' : List MapEntry} (h : EntR Γ1 w l l') : ∀ {l'' : List MapEntry}, EntR Γ2 w' l l'' → EntR Γ3 w l l' := by
  induction h with
  | nil => intro _ _; exact .nil
  | cons hk hf hv hb _ ih => intro l'' k; cases k with | cons hk2 _ hv2 _ t2 => exact .cons (hk.restrict hg hk2) hf (hv.restrict hg hv2) hb (ih t2)

theorem TR.restrict (hg : ∀ i, Γ1.dom i → Γ2.dom i → Γ3.dom i ∧ Γ3.φ i = Γ1.φ i) {fi : FI} {E : En} {tm tm' : Array Value} (h : TR Γ1 w fi E tm) (k : TR Γ2 w' fi E tm') : TR Γ3 w fi E tm :=
  ⟨h.size, fun t => (h.get t).restrict hg (k.get t)⟩

/-- A block under another id, in both. -/
theorem ObjR.restrict (hg : ∀ i, Γ1.dom i → Γ2.dom i → Γ3.dom i ∧ Γ3.φ i = Γ1.φ i) {b1 b2 b3 : Nat} {o : IObj} (e : Γ3.φ b3 = Γ1.φ b1) (hro : roN ≤ b3 → roN ≤ b1) (h : ObjR Γ1 w b1 o) (k : ObjR Γ2 w' b2 o) : ObjR Γ3 w b3 o := by
  cases o with
  | cells cs el fz ex sh =>
    obtain ⟨cs', lo, hi, hc⟩ := h
    obtain ⟨cs2, lo2, hi2, hc2⟩ := k
    refine ⟨cs', lo, hi, by rw [e]; exact hc.block, by rw [e]; exact hc.room, fun i v hv => ?_, by rw [e]; exact hc.exact_, by rw [e]; exact fun x => hc.frozen (hro x), by rw [e]; exact hc.base0⟩
    obtain ⟨v', h1, h2⟩ := hc.cell i v hv
    obtain ⟨v2, -, h3⟩ := hc2.cell i v hv
    exact ⟨v', by rw [e]; exact h1, h2.restrict hg h3⟩
  | map es ck =>
    obtain ⟨es', h1, h2⟩ := h
    obtain ⟨es2, -, h3⟩ := k
    exact ⟨es', by rw [e]; exact h1, h2.restrict hg h3⟩
  | strIter s pos => unfold ObjR at h ⊢; rw [e]; exact h
  | loop st pd fi E ps asg body =>
    obtain ⟨fn, tm, df, h1, h2⟩ := h
    obtain ⟨fn2, tm2, df2, -, h3⟩ := k
    exact ⟨fn, tm, df, by rw [e]; exact h1, h2.restrict hg h3⟩
  | dfr x => cases x <;> (unfold ObjR at h ⊢; rw [e]; exact h)
end restrict

/-! ### Blocks apart, laid over -/
section
variable {Γ : Ga} {H : IH} {w : World}

theorem ObjR.lt {b : Nat} {o : IObj} (ho : ObjR Γ w b o) : (Γ.φ b).1 < w.heap.size := by
  have key : ∀ x, w.heap[(Γ.φ b).1]? = some x → (Γ.φ b).1 < w.heap.size := fun x hx => (Array.getElem?_eq_some_iff.1 hx).1
  cases o with
  | cells cs e fz ex sh => obtain ⟨cs', lo, hi, hc⟩ := ho; exact key _ hc.block
  | map es ck => obtain ⟨es', h1, _⟩ := ho; exact key _ h1
  | strIter s pos => exact key _ ho.1
  | loop st pd fi E ps asg body => obtain ⟨fn, tm, df, h1, _⟩ := ho; exact key _ h1
  | dfr x => cases x <;> exact key _ ho

theorem Rh.lay (h : Rh Γ H w) {i : Nat} {ob : IObj} (hd : Γ.dom i) (ho : ObjR Γ w i ob) (hne : ∀ j x, H.get j = some x → j ≠ i → (Γ.φ j).1 ≠ (Γ.φ i).1) : Rh Γ (H.put i ob) w := by
  refine ⟨h.dom, h.ro, h.glob, fun b o hb => ?_, fun b b' o o' hb hb' e => ?_, fun b o hb => ?_⟩
  · rw [IH.get_put] at hb
    by_cases e1 : b = i
    · rw [e1]; exact hd
    · rw [if_neg e1] at hb; exact h.live b o hb
  · rw [IH.get_put] at hb hb'
    by_cases e1 : b = i <;> by_cases e2 : b' = i
    · rw [e1, e2]
    · rw [if_neg e2] at hb'; subst e1; exact absurd e.symm (hne b' _ hb' e2)
    · rw [if_neg e1] at hb; subst e2; exact absurd e (hne b _ hb e1)
    · rw [if_neg e1] at hb; rw [if_neg e2] at hb'; exact h.inj b b' o o' hb hb' e
  · rw [IH.get_put] at hb
    by_cases e1 : b = i
    · rw [if_pos e1] at hb; cases hb; rw [e1]; exact ho
    · rw [if_neg e1] at hb; exact h.obj b o hb

/-- A block that lies apart. -/
structure Apart (n0 : Nat) (Γ : Ga) (H : IH) (w : World) (low : Nat) (f : Nat) (ob : IObj) : Prop where
  dom : Γ.dom (n0 + f)
  obj : ObjR Γ w (n0 + f) ob
  low : low ≤ (Γ.φ (n0 + f)).1
  ne : ∀ i x, H.get i = some x → (Γ.φ i).1 ≠ (Γ.φ (n0 + f)).1

theorem overlay_n (n0 : Nat) : ∀ (l : List (Nat × IObj)) (H : IH), (overlay n0 l H).n = H.n := by
  intro l H
  induction l with
  | nil => rfl
  | cons p l ih => obtain ⟨i, o⟩ := p; simp only [overlay, IH.n_put]; exact ih

theorem overlay_get (n0 : Nat) : ∀ (l : List (Nat × IObj)) {H : IH} {i : Nat} {x : IObj}, (overlay n0 l H).get i = some x → H.get i = some x ∨ ∃ f, (f, x) ∈ l ∧ i = n0 + f := by
  intro l
  induction l with
  | nil => intro H i x h; exact .inl h
  | cons p l ih =>
    intro H i x h
    obtain ⟨f, o⟩ := p
    simp only [overlay, IH.get_put] at h
    by_cases e : i = n0 + f
    · rw [if_pos e] at h; cases h; exact .inr ⟨f, List.mem_cons_self, e⟩
    · rw [if_neg e] at h
      rcases ih h with h1 | ⟨g, h1, h2⟩
      · exact .inl h1
      · exact .inr ⟨g, List.mem_cons_of_mem _ h1, h2⟩

theorem overlay_rh {n0 low : Nat} (h : Rh Γ H w) : ∀ (l : List (Nat × IObj)), (∀ p ∈ l, Apart n0 Γ H w low p.1 p.2) → (∀ p ∈ l, ∀ p' ∈ l, p.1 ≠ p'.1 → (Γ.φ (n0 + p.1)).1 ≠ (Γ.φ (n0 + p'.1)).1) →
    Rh Γ (overlay n0 l H) w := by
  intro l
  induction l with
  | nil => intro _ _; exact h
  | cons p l ih =>
    intro ha hd
    obtain ⟨f, o⟩ := p
    have hp := ha (f, o) List.mem_cons_self
    refine (ih (fun p hp => ha p (List.mem_cons_of_mem _ hp)) fun p hp p' hp' => hd p (List.mem_cons_of_mem _ hp) p' (List.mem_cons_of_mem _ hp')).lay hp.dom hp.obj fun j x hj hne => ?_
    rcases overlay_get n0 l hj with h1 | ⟨g, h1, rfl⟩
    · exact hp.ne j x h1
    · exact hd (g, x) (List.mem_cons_of_mem _ h1) (f, o) List.mem_cons_self (fun e => hne (by simp only at e; rw [e]))

/-! ### From the region's start -/
/-- 'Lf': the operations that have laid a block. -/
structure GG (n0 N : Nat) (Γ0 : Ga) (H0 : IH) (w0 : World) (Lf : Nat → Prop) (Γ : Ga) (H : IH) (w : World) : Prop where
  n0e : H0.n = n0
  nle : n0 + N ≤ H.n
  φ : ∀ i, (i < n0 ∨ H.n ≤ i) → Γ.φ i = Γ0.φ i
  dom : ∀ i, Γ.dom i ↔ (Γ0.dom i ∨ (∃ f, f < N ∧ Lf f ∧ i = n0 + f) ∨ (n0 + N ≤ i ∧ i < H.n))
  size : w0.heap.size ≤ w.heap.size
  os : w.os = w0.os
  tape : w.tape = w0.tape
  output : w.output = w0.output
  same : Same w0 w
  keep : ∀ b, b < w0.heap.size → ¬ Img Γ0 H0 b → w.heap[b]? = w0.heap[b]?
  imgs : ∀ b, b < w0.heap.size → Img Γ H b → Img Γ0 H0 b
  rol : ∀ i, i < roN → ∀ o, H.get i = some o → ∃ o', H0.get i = some o'

variable {n0 N : Nat} {Γ0 : Ga} {H0 : IH} {w0 : World} {Lf : Nat → Prop} {Γ1 : Ga} {H1 : IH} {w1 : World}

theorem GG.le0 (g : GG n0 N Γ0 H0 w0 Lf Γ H w) (h0 : Rh Γ0 H0 w0) : Γ0.le Γ :=
  ⟨fun i hi => (g.dom i).2 (.inl hi), fun i hi => g.φ i (.inl (by have := h0.dom i hi; have := g.n0e; omega))⟩

/-- What an image of the heap with blocks laid over is. -/
theorem img_overlay {l : List (Nat × IObj)} {b : Nat} (h : Img Γ (overlay n0 l H) b) : Img Γ H b ∨ ∃ p ∈ l, (Γ.φ (n0 + p.1)).1 = b := by
  obtain ⟨i, o, hi, ho, e⟩ := h
  rcases overlay_get n0 l ho with h1 | ⟨f, h1, rfl⟩
  · exact .inl ⟨i, o, hi, h1, e⟩
  · exact .inr ⟨_, h1, e⟩

theorem GG.go (h0 : Rh Γ0 H0 w0) (g : GG n0 N Γ0 H0 w0 Lf Γ H w) (_hr : Rh Γ H w) {l : List (Nat × IObj)} (ha : ∀ p ∈ l, Apart n0 Γ H w w0.heap.size p.1 p.2) (hE : Ext Γ (overlay n0 l H) w Γ1 H1 w1) :
    GG n0 N Γ0 H0 w0 Lf Γ1 H1 w1 := by
  have hn : (overlay n0 l H).n = H.n := overlay_n n0 l H
  have h1 := hE.nle
  rw [hn] at h1
  have himg : ∀ b, b < w0.heap.size → Img Γ (overlay n0 l H) b → Img Γ0 H0 b := by
    intro b hb hi
    rcases img_overlay hi with x | ⟨p, hp, e⟩
    · exact g.imgs b hb x
    · have := (ha p hp).low; omega
  refine ⟨g.n0e, by have := g.nle; omega, fun i hi => ?_, fun i => ?_, Nat.le_trans g.size hE.size, hE.os.trans g.os, hE.tape.trans g.tape, hE.output.trans g.output, g.same.trans hE.same, fun b hb hi => ?_, fun b hb hi => ?_, fun i hi o ho => ?_⟩
  · have := g.nle
    rw [hE.φ i (by rw [hn]; omega), g.φ i (by omega)]
  · rw [hE.dom, hn, g.dom]
    have := g.nle
    constructor
    · rintro ((a | a | a) | a)
      · exact .inl a
      · exact .inr (.inl a)
      · exact .inr (.inr ⟨a.1, by omega⟩)
      · exact .inr (.inr ⟨by omega, a.2⟩)
    · rintro (a | a | a)
      · exact .inl (.inl a)
      · exact .inl (.inr (.inl a))
      · rcases Nat.lt_or_ge i H.n with x | x
        · exact .inl (.inr (.inr ⟨a.1, x⟩))
        · exact .inr ⟨x, a.2⟩
  · rw [hE.keep b (Nat.lt_of_lt_of_le hb g.size) (fun x => hi (himg b hb x)), g.keep b hb hi]
  · exact himg b hb (hE.imgs b (Nat.lt_of_lt_of_le hb g.size) hi)
  · obtain ⟨o1, ho1⟩ := hE.rol i hi o ho
    rcases overlay_get n0 l ho1 with x | ⟨f, -, rfl⟩
    · exact g.rol i hi _ x
    · have := h0.ro; have := g.n0e; omega

/-- A block that goes on lying apart. -/
theorem Apart.go (h0 : Rh Γ0 H0 w0) (g : GG n0 N Γ0 H0 w0 Lf Γ H w) (_hr : Rh Γ H w) {l : List (Nat × IObj)} (_ha : ∀ p ∈ l, Apart n0 Γ H w w0.heap.size p.1 p.2)
    (hro : Rh Γ (overlay n0 l H) w) (hE : Ext Γ (overlay n0 l H) w Γ1 H1 w1) (_hr1 : Rh Γ1 H1 w1) {f : Nat} {ob : IObj} (hf : Apart n0 Γ H w w0.heap.size f ob) (hd : ∀ p ∈ l, (Γ.φ (n0 + p.1)).1 ≠ (Γ.φ (n0 + f)).1) :
    Apart n0 Γ1 H1 w1 w0.heap.size f ob := by
  have hle := hE.le hro
  have e := hle.φ _ hf.dom
  have hlt := hf.obj.lt
  have hni : ¬ Img Γ (overlay n0 l H) (Γ.φ (n0 + f)).1 := by
    intro x
    rcases img_overlay x with ⟨i, o, hi, ho, e1⟩ | ⟨p, hp, e1⟩
    · exact hf.ne i o ho e1
    · exact hd p hp e1
  refine ⟨hle.dom _ hf.dom, hf.obj.mono hle hE.same hf.dom (hE.keep _ hlt hni), by rw [e]; exact hf.low, fun i x hx => ?_⟩
  rw [e]
  intro e1
  rcases Nat.lt_or_ge i roN with hi | hi
  · obtain ⟨o1, ho1⟩ := hE.rol i hi x hx
    have hdi := hro.live i o1 ho1
    rcases overlay_get n0 l ho1 with y | ⟨g', -, rfl⟩
    · rw [hle.φ i hdi] at e1
      exact hf.ne i _ y e1
    · have := h0.ro; have := g.n0e; omega
  · exact hni (hE.imgs _ hlt ⟨i, x, hi, hx, e1⟩)

/-- At the end every kept id is known. -/
def Ga.fill (Γ : Ga) (n0 N : Nat) : Ga := { φ := Γ.φ, dom := fun i => Γ.dom i ∨ (n0 ≤ i ∧ i < n0 + N) }

theorem Ga.le_fill (Γ : Ga) (n0 N : Nat) : Γ.le (Γ.fill n0 N) := ⟨fun _ h => .inl h, fun _ _ => rfl⟩

theorem Rh.fill (h : Rh Γ H w) (hn : n0 + N ≤ H.n) : Rh (Γ.fill n0 N) H w := by
  refine ⟨?_, h.ro, fun g hg => ⟨.inl (h.glob g hg).1, (h.glob g hg).2⟩, fun b o hb => .inl (h.live b o hb), h.inj, fun b o hb => (h.obj b o hb).mono (Γ.le_fill n0 N) (.refl w) (h.live b o hb) rfl⟩
  rintro b (hb | hb)
  · exact h.dom b hb
  · omega

theorem GG.fill (g : GG n0 N Γ0 H0 w0 Lf Γ H w) : Ext Γ0 H0 w0 (Γ.fill n0 N) H w := by
  have h1 := g.n0e
  have h2 := g.nle
  refine ⟨by omega, fun i hi => g.φ i (by omega), fun i => ?_, g.size, g.os, g.tape, g.output, g.same, g.keep, g.imgs, g.rol⟩
  simp only [Ga.fill, g.dom]
  constructor
  · rintro ((a | ⟨f, a, -, rfl⟩ | a) | a)
    · exact .inl a
    · exact .inr ⟨by omega, by omega⟩
    · exact .inr ⟨by omega, by omega⟩
    · exact .inr ⟨by omega, by omega⟩
  · rintro (a | a)
    · exact .inl (.inl a)
    · rcases Nat.lt_or_ge i (n0 + N) with x | x
      · exact .inr ⟨by omega, x⟩
      · exact .inl (.inr (.inr ⟨x, by omega⟩))

theorem GG.overlay (g : GG n0 N Γ0 H0 w0 Lf Γ H w) (h0 : Rh Γ0 H0 w0) {l : List (Nat × IObj)} (ha : ∀ p ∈ l, Apart n0 Γ H w w0.heap.size p.1 p.2) : GG n0 N Γ0 H0 w0 Lf Γ (overlay n0 l H) w := by
  have hn : (Iv.overlay n0 l H).n = H.n := overlay_n n0 l H
  refine ⟨g.n0e, by rw [hn]; exact g.nle, by rw [hn]; exact g.φ, by rw [hn]; exact g.dom, g.size, g.os, g.tape, g.output, g.same, g.keep, fun b hb hi => ?_, fun i hi o ho => ?_⟩
  · rcases img_overlay hi with x | ⟨p, hp, e⟩
    · exact g.imgs b hb x
    · have := (ha p hp).low; omega
  · rcases overlay_get n0 l ho with x | ⟨f, -, rfl⟩
    · exact g.rol i hi _ x
    · have := h0.ro; have := g.n0e; omega
end

end Go.Iv
