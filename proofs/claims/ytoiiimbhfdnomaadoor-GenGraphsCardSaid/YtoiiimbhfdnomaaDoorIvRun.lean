/- What the evaluator says of code is so: code, loops, ranges over functions, calls, deferred calls. -/
import Derived.Test.YtoiiimbhfdnomaaDoorIvCode
set_option linter.unusedSimpArgs false
set_option linter.unusedVariables false
namespace Go.Iv
open Go
variable {P : Program} {Γ Γ' : Ga} {H H' : IH} {w w' : World} {F : Fence} {n : Nat} {Q : Exit → Act → World → Prop} {a : Act}
def DrawOK (P : Program) (sf : Self) : Prop := ∀ {fi : FI} {ro : Option Nat} {id : Nat} {ops : Array Oper} {T : En} {H : IH} {D : List Deferred} {r : X × En × IH × List Deferred} {Γ : Ga} {w : World} {a : Act},
  evDraw P sf fi ops T H D = some r → RoOK Γ ro → St Γ H w fi T D a → (Code.region id ops true).wpIn (FO Γ ro) 0 P (Post Γ H w fi r) a w
theorem stepR_scope {b : Frame} {a : Act} {k : List Item} {cs : List Frame} {w : World} {c : Code} : step P (lone (b.atR a (.code (.scope c) :: k)) cs w) = .next (lone (b.atR a (.code c :: .inScope c :: k)) cs w) :=
  step_lone_go (by simp [stepG, stepG.exec, Frame.atR])
theorem stepR_inScope {b : Frame} {a : Act} {k : List Item} {cs : List Frame} {w : World} {c : Code} : step P (lone (b.atR a (.inScope c :: k)) cs w) = .next (lone (b.atR a k) cs w) :=
  step_lone_go (by simp [stepG, stepG.exec, Frame.atR])
theorem wpIn_scope {c : Code} (h : c.wpIn F n P Q a w) (hg : ∀ l a w, ¬ Q (.goto l) a w) : (Code.scope c).wpIn F n P Q a w := by
  intro b k cs hro hb hr
  have h0 : (lone (b.atR a (.code (.scope c) :: k)) cs w).fenced P F := fenced_calm hb hr rfl
  obtain ⟨e, a₁, w₁, hq, harr⟩ := h b (.inScope c :: k) cs hro hb hr
  cases e with
  | normal => exact ⟨.normal, a₁, w₁, hq, .head h0 stepR_scope (StepsIn.trans harr (.one (fenced_calm hb hr rfl) stepR_inScope))⟩
  | exit id =>
    have hx : exitTo id (.inScope c :: k) = exitTo id k := by simp [exitTo]
    exact ⟨_, a₁, w₁, hq, fun k' hk => .head h0 stepR_scope (harr.1 k' (by rw [hx]; exact hk)),
      fun hr' hk => let ⟨k₁, h1, h2⟩ := harr.2 hr' (by rw [hx]; exact hk); ⟨k₁, h1, .head h0 stepR_scope h2⟩⟩
  | goto l => exact absurd hq (hg l a₁ w₁)
  | ret => exact ⟨_, a₁, w₁, hq, .of_steps (.one h0 stepR_scope) harr⟩
  | panic ch => exact ⟨_, a₁, w₁, hq, .of_steps (.one h0 stepR_scope) harr⟩
  | outgrown => exact ⟨_, a₁, w₁, hq, .of_steps (.one h0 stepR_scope) harr⟩
theorem wpLp_of {c : Code} (h : c.wpIn F n P (Exit.then (wpLp F n P c Q) Q) a w) : wpLp F n P c Q a w := by
  intro b k cs hro hb hr
  obtain ⟨e, a₁, w₁, hq, harr⟩ := h b (.inLoop c :: k) cs hro hb hr
  cases e with
  | normal =>
    obtain ⟨e₂, a₂, w₂, hq₂, harr₂⟩ := hq b k cs hro hb hr
    exact ⟨e₂, a₂, w₂, hq₂, .of_steps (StepsIn.trans harr (.one (fenced_calm hb hr rfl) stepR_inLoop)) harr₂⟩
  | exit id => exact ⟨_, a₁, w₁, hq, .pass (x := .inLoop c) rfl (fun _ _ => .inl (by simp)) harr⟩
  | goto l => exact ⟨_, a₁, w₁, hq, .pass (x := .inLoop c) rfl (fun _ _ => .inl (by simp)) harr⟩
  | ret => exact ⟨_, a₁, w₁, hq, .pass (x := .inLoop c) rfl (fun _ _ => .inl (by simp)) harr⟩
  | panic ch => exact ⟨_, a₁, w₁, hq, .pass (x := .inLoop c) rfl (fun _ _ => .inl (by simp)) harr⟩
  | outgrown => exact ⟨_, a₁, w₁, hq, .pass (x := .inLoop c) rfl (fun _ _ => .inl (by simp)) harr⟩
theorem wpIn_loop_of {c : Code} (h : wpLp F n P c Q a w) : (Code.loop c).wpIn F n P Q a w := fun b k cs hro hb hr =>
  let ⟨e, a', w', hq, harr⟩ := h b k cs hro hb hr
  ⟨e, a', w', hq, .of_steps (.one (fenced_calm hb hr rfl) stepR_loop) harr⟩
theorem wpLp_mono {c : Code} {Q' : Exit → Act → World → Prop} (h : wpLp F n P c Q a w) (hq : ∀ e a w, Q e a w → Q' e a w) : wpLp F n P c Q' a w :=
  fun b k cs hro hb hr => let ⟨e, a', w', q, r⟩ := h b k cs hro hb hr; ⟨e, a', w', hq _ _ _ q, r⟩
theorem range_tail {sf : Self} (S : Sound P sf) {ro : Option Nat} {l : Nat} {g : FuncId} {args : List Value} {args' : Array Value} {Γ0 : Ga} {H0 : IH} {w0 : World} {fi : FI} {T : En} {D : List Deferred} {e : End} {H1 : IH} {r : X × En × IH × List Deferred}
    (hc : sf.call g args H = some (e, H1)) (hst : St Γ H w fi T D a) (hE : Ext Γ0 H0 w0 Γ H w) (ha : VRs Γ w args args'.toList) (hd : Γ.dom l) (hl : roN ≤ l)
    (hr : (match (some (e, H1) : Option (End × IH)) with
      | some (.returned _, H) =>
        match H.get l with
        | some (.loop st pd fi2 E2 ps asg body) =>
          if st == LoopState.busy then none else
          let H := H.put l (.loop .exhausted pd fi2 E2 ps asg body)
          match pd with
          | none => some (.normal, T, H, D)
          | some .ret => some (.ret, T, H, D)
          | some (.exit id) => some (.exit id, T, H, D)
          | _ => none
        | _ => none
      | some (.panicked v, H) => some (.panic v, T, H, D)
      | none => none) = some r) :
    CallsIn (FO Γ ro) 0 P g args' w (rangePost (FO Γ ro) 0 P (Γ.φ l).1 (Post Γ0 H0 w0 fi r) a) := by
  refine FO_calls ((S.call hc hst.rh ha).mono ?_)
  rintro e1 w1 ⟨Γ1, he, hR1, hE1⟩
  have hle := hE1.le hst.rh
  cases he with
  | returned hv =>
    simp only at hr
    split at hr
    · rename_i st pd fi2 E2 ps asg body hl1
      split at hr
      · cases hr
      · rename_i hst'
        obtain ⟨rc, hrc, hs, hp, -, -, -, -, hR2, hE2⟩ := turnLoop hR1 hl1 hl .exhausted pd
        have hend := run_endLoop (P := P) hrc (by rw [hs]; intro e; exact hst' (by rw [e]; rfl))
        rw [hp] at hend
        rw [hle.φ l hd] at hend
        refine ⟨pd, _, hend, ?_⟩
        rw [hle.φ l hd] at hR2 hE2
        have hfin := (hst.ext hR1 hE1).ext hR2 hE2
        have hEE := (hE.trans hE1).trans hE2
        cases pd with
        | none => simp only at hr ⊢; cases hr; exact ⟨Γ1, .normal, hfin, hEE⟩
        | some c =>
          simp only at hr ⊢
          cases c with
          | ret => cases hr; exact wpIn_ret ⟨Γ1, .ret, hfin, hEE⟩
          | exit id => cases hr; exact wpIn_exit ⟨Γ1, .exit id, hfin, hEE⟩
          | _ => cases hr
    · cases hr
  | panicked hv =>
    cases hr
    exact ⟨Γ1, .panic hv, hst.ext hR1 hE1, hE.trans hE1⟩
theorem Post.notGoto {fi : FI} {r : X × En × IH × List Deferred} {l : Nat} : ¬ Post Γ H w fi r (.goto l) a w' := by
  obtain ⟨x, T, H1, D⟩ := r
  rintro ⟨Γ1, hx, -, -⟩
  simp only at hx
  cases hx
theorem run_enterLoop_in {l₀ : Nat} {r₀ : Loop} (h : w.heap[l₀]? = some (.loop r₀)) (fn : FuncId) (tmps : Array Value) (ps : Array Tmp) (assign body : Code) :
    (Instr.enterLoop fn tmps ps assign body (some l₀)).run P w =
      .ok (w.heap.size, []) (w.alloc (.loop { state := .ready, pending := none, fn, tmps, params := ps, assign, body, defers := r₀.defers })) := by
  unfold Instr.enterLoop
  simp only [Sem.run_bind, run_getLoop h, run_newObj_alloc, Result.andThen, Sem.run_pure]
theorem invoke_enter (hng : noNG P = true) {f : FuncId} {fn : Func} {c : Code} (hf : P.funcs[f]? = some fn) (hb : fn.body = some c) (cap args : Array Value) (w : World) :
    (invoke (.fn (.func f) cap) args).run P w = .ok (.enter f (args ++ cap)) w := by
  simp only [invoke]
  exact callFunc_enter hng hf hb _ _
def Enters (P : Program) (sf : Self) : Prop := ∀ {f : FuncId} {args : List Value} {H : IH} {e : End} {H' : IH}, sf.call f args H = some (e, H') → ∃ fn c, P.funcs[f]? = some fn ∧ fn.body = some c
theorem rangeFunc_sound {sf : Self} (S : Sound P sf) (hen : Enters P sf) (hng : noNG P = true) {ro : Option Nat} {f : Operand} {ps : Array Tmp} {asg body : Code} {fi : FI} {T : En} {D : List Deferred} {r : X × En × IH × List Deferred}
    (h : evCode P sf fi ro (.rangeFunc f ps asg body) T H D = some r) (hro : RoOK Γ ro) (hst : St Γ H w fi T D a) : (Code.rangeFunc f ps asg body).wpIn (FO Γ ro) 0 P (Post Γ H w fi r) a w := by
  unfold evCode at h
  split at h
  · cases h
  · rename_i hla
    have hf := VR.opd (a := a) hst.rh hst.tmps f
    split at h
    · rename_i g first captured hv
      rw [hv] at hf
      obtain ⟨a1, c1, hfe, h1, h2⟩ := hf.funcE rfl
      have hres : ∀ (L : Nat) (w1 : World), (resolve a.eval (rangeCall f L) 0).run P w1 = .ok { target := .fn (.func g) c1, args := a1 ++ #[.func (.yield L) #[] #[]] } w1 := by
        intro L w1
        have e : resolve a.eval (rangeCall f L) 0 = Deferred.ofValue (a.eval f) (#[Operand.const (.func (.yield L) #[] #[])].map a.eval) := rfl
        rw [e, hfe]
        simp [Deferred.ofValue, Act.eval]
      simp only at h
      cases ro with
      | none =>
        simp only at h
        cases hc : sf.call g (first.toList ++ [Value.func (.yield (H.n + 1)) #[] #[]] ++ captured.toList) ((H.new (.dfr true)).new (.loop .ready none fi T ps.toList asg body)) with
        | none => rw [hc] at h; cases h
        | some p =>
          obtain ⟨e, H1⟩ := p
          rw [hc] at h
          obtain ⟨fn1, cd, hfn1, hbd⟩ := hen hc
          refine wpIn_rangeFunc fun fn _ => ?_
          obtain ⟨hR1, hE1⟩ := hst.rh.new (.dfr true) (.deferred (some [])) (by
            show (w.alloc _).heap[_]? = _
            rw [Ga.next_φ]; exact heap_alloc_new)
          have hst1 := hst.ext hR1 hE1
          obtain ⟨hR2, hE2⟩ := hR1.new (.loop .ready none fi T ps.toList asg body) (.loop { state := .ready, pending := none, fn, tmps := a.tmps, params := ps, assign := asg, body, defers := w.heap.size }) (by
            refine ⟨fn, a.tmps, w.heap.size, ?_, ?_⟩
            · rw [Ga.next_φ]; exact heap_alloc_new
            · exact hst1.tmps.mono (Ga.le_next fun x => by have := hR1.dom _ x; omega) (.alloc _ _))
          have hst2 := hst1.ext hR2 hE2
          have hE := hE1.trans hE2
          have hle := hE.le hst.rh
          have hl : ((Ga.next (Γ.next H.n (w.heap.size, 0)) (H.new (.dfr true)).n ((w.alloc (.deferred (some []))).heap.size, 0)).φ (H.n + 1)).1 = w.heap.size + 1 := by
            have : (H.new (.dfr true)).n = H.n + 1 := by simp
            rw [← this, Ga.next_φ]; simp
          have hd1 : (Ga.next (Γ.next H.n (w.heap.size, 0)) (H.new (.dfr true)).n ((w.alloc (.deferred (some []))).heap.size, 0)).dom (H.n + 1) := .inr (by simp)
          refine ⟨w.heap.size + 1, [{ target := .collected w.heap.size, args := #[] }], _, _, _, g, a1 ++ #[.func (.yield (w.heap.size + 1)) #[] #[]] ++ c1, _, run_enterLoop_outer _ _ _ _ _, hres _ _, fun f' _ => FO_fn _ f', invoke_enter hng hfn1 hbd _ _ _, FO_depth _ _, ?_⟩
          · rw [← hl]
            refine range_tail (ro := none) (a := { a with defers := { target := .collected w.heap.size, args := #[] } :: a.defers }) S hc ⟨hst2.rh, hst2.tmps, .cons (.inl ⟨H.n, rfl, .inl (.inr rfl), ?_⟩) hst2.defs⟩ hE ?_ hd1 ?_ h
            · have : ((Ga.next (Γ.next H.n (w.heap.size, 0)) (H.new (.dfr true)).n ((w.alloc (.deferred (some []))).heap.size, 0)).φ H.n).1 = w.heap.size := by
                simp [Ga.next]
              rw [this]
            · simpa using ((h1.mono hle hE.same).append (.cons (.yield hd1) .nil)).append (h2.mono hle hE.same)
            · have := hst.rh.ro; omega
      | some l0 =>
        simp only at h
        cases hc : sf.call g (first.toList ++ [Value.func (.yield H.n) #[] #[]] ++ captured.toList) (H.new (.loop .ready none fi T ps.toList asg body)) with
        | none => rw [hc] at h; cases h
        | some p =>
          obtain ⟨e, H1⟩ := p
          rw [hc] at h
          obtain ⟨fn1, cd, hfn1, hbd⟩ := hen hc
          obtain ⟨r0, hr0⟩ : ∃ r0, w.heap[(Γ.φ l0).1]? = some (.loop r0) := by
            unfold loopAt at hla
            cases hb : H.get l0 with
            | none => simp [hb] at hla
            | some o =>
              cases o with
              | loop st pd fi' T' ps' asg' body' => obtain ⟨fn, tm, df, h3, -⟩ := hst.rh.obj _ _ hb; exact ⟨_, h3⟩
              | _ => simp [hb] at hla
          refine wpIn_rangeFunc fun fn _ => ?_
          obtain ⟨hR1, hE⟩ := hst.rh.new (.loop .ready none fi T ps.toList asg body) (.loop { state := .ready, pending := none, fn, tmps := a.tmps, params := ps, assign := asg, body, defers := r0.defers }) (by
            refine ⟨fn, a.tmps, r0.defers, ?_, ?_⟩
            · rw [Ga.next_φ]; exact heap_alloc_new
            · exact hst.tmps.mono (Ga.le_next fun x => by have := hst.rh.dom _ x; omega) (.alloc _ _))
          have hst1 := hst.ext hR1 hE
          have hle := hE.le hst.rh
          have hd1 : (Γ.next H.n (w.heap.size, 0)).dom H.n := .inr rfl
          refine ⟨w.heap.size, [], _, _, _, g, a1 ++ #[.func (.yield w.heap.size) #[] #[]] ++ c1, _, run_enterLoop_in hr0 _ _ _ _ _, hres _ _, fun f' _ => FO_fn _ f', invoke_enter hng hfn1 hbd _ _ _, FO_depth _ _, ?_⟩
          · have := range_tail (ro := some l0) (l := H.n) (args' := a1 ++ #[.func (.yield w.heap.size) #[] #[]] ++ c1) S hc hst1 hE (by
              have hy : VR (Γ.next H.n (w.heap.size, 0)) (w.alloc (.loop { state := .ready, pending := none, fn, tmps := a.tmps, params := ps, assign := asg, body, defers := r0.defers })) (.func (.yield H.n) #[] #[]) (.func (.yield w.heap.size) #[] #[]) := by
                have := VR.yield (w := w.alloc (.loop { state := .ready, pending := none, fn, tmps := a.tmps, params := ps, assign := asg, body, defers := r0.defers })) hd1
                simpa [Ga.next_φ] using this
              simpa using ((h1.mono hle hE.same).append (.cons hy .nil)).append (h2.mono hle hE.same)) hd1 hst.rh.ro h
            rw [FO_le hle hro, Ga.next_φ] at this
            exact this
    · cases h
end Go.Iv
