/- What the evaluator says of calls is so. -/
import Derived.Test.YtoiiimbhfdnomaaDoorIvAll
set_option linter.unusedSimpArgs false
set_option linter.unusedVariables false
namespace Go.Iv
open Go
variable {P : Program} {Γ Γ' : Ga} {H H' : IH} {w w' : World} {a : Act}
def resRun (tm : Array Value) : ResultVar → Sem Value
  | .tmp t => pure (tm.getD t undef)
  | .cell a t => do loadVar t (← asAddr (tm.getD a undef))
theorem resultOf_run (hR : Rh Γ H w) {fi : FI} {T : En} {tm : Array Value} (hT : TR Γ w fi T tm) {rv : ResultVar} {v : Value} (h : resultOf P fi T H rv = some v) :
    ∃ v', (resRun tm rv).run P w = .ok v' w ∧ VR Γ w v v' := by
  unfold resultOf at h
  have hg := hT.get
  split at h
  · rename_i t
    cases h
    exact ⟨_, rfl, hg t⟩
  · rename_i a t
    have ha := hg a
    split at h
    · rename_i b off e
      rw [e] at ha
      obtain ⟨b1, o1, e1, hd, he⟩ := ha.ptrE
      cases e1
      obtain ⟨v', h1, h2⟩ := ldVar_run (P := P) hR h
      exact ⟨v', by simp [resRun, asAddr, he, h1], h2⟩
    · cases h
theorem mapM_run (hR : Rh Γ H w) {fi : FI} {T : En} {tm : Array Value} (hT : TR Γ w fi T tm) : ∀ {l : List ResultVar} {vs : List Value}, l.mapM (resultOf P fi T H) = some vs →
    ∃ vs', (l.mapM (resRun tm)).run P w = .ok vs' w ∧ VRs Γ w vs vs' := by
  intro l
  induction l with
  | nil => intro vs h; simp at h; subst h; exact ⟨[], by simp, .nil⟩
  | cons r l ih =>
    intro vs h
    simp only [List.mapM_cons, Option.bind_eq_bind, Option.bind_eq_some_iff, Option.pure_def, Option.some.injEq] at h
    obtain ⟨v, h1, vs1, h2, rfl⟩ := h
    obtain ⟨v', h3, h4⟩ := resultOf_run (P := P) hR hT h1
    obtain ⟨vs', h5, h6⟩ := ih h2
    exact ⟨v' :: vs', by simp [List.mapM_cons, h3, h5], .cons h4 h6⟩
theorem results_run (hR : Rh Γ H w) {fn : Func} {fi : FI} {T : En} {tm : Array Value} (hT : TR Γ w fi T tm) {v : Value} (h : resultsOf P fi fn T H = some v) :
    ∃ v', (results fn tm).run P w = .ok v' w ∧ VR Γ w v v' := by
  have hdef : results fn tm = (do
      let vs ← fn.results.mapM (resRun tm)
      pure (if h : vs.size = 1 then vs[0] else .tuple vs)) := by
    unfold results
    congr 1
  unfold resultsOf at h
  have main : ∀ vs, fn.results.toList.mapM (resultOf P fi T H) = some vs → ∃ vs', (fn.results.mapM (resRun tm)).run P w = .ok (⟨vs'⟩ : Array Value) w ∧ VRs Γ w vs vs' := by
    intro vs hvs
    obtain ⟨vs', h1, h2⟩ := mapM_run (P := P) hR hT hvs
    refine ⟨vs', ?_, h2⟩
    rw [Array.mapM_eq_mapM_toList]
    simp [h1]
  split at h
  · rename_i x hx
    cases h
    obtain ⟨vs', h1, h2⟩ := main _ hx
    cases h2 with
    | cons hv ht =>
      cases ht
      exact ⟨_, by rw [hdef]; simp [h1], hv⟩
  · rename_i vs hne hx
    cases h
    obtain ⟨vs', h1, h2⟩ := main _ hx
    have hlen := h2.length
    have : ¬ (⟨vs'⟩ : Array Value).size = 1 := by
      intro e
      simp only [List.size_toArray] at e
      rw [e] at hlen
      match vs, hlen with
      | [x], _ => exact hne x rfl
    exact ⟨.tuple ⟨vs'⟩, by rw [hdef]; simp [h1] at this ⊢; simp [this], .tuple h2⟩
  · cases h
inductive ModeR (Γ : Ga) (w : World) : Mode → FrameMode → Prop
  | returning : ModeR Γ w .returning .returning
  | panicking {v v' : Value} {r : Bool} (h : VR Γ w v v') : ModeR Γ w (.panicking v r) (.panicking [{ v := v', recovered := r }])
theorem ModeR.mono (hg : Γ.le Γ') (hs : Same w w') {u : Mode} {u' : FrameMode} (h : ModeR Γ w u u') : ModeR Γ' w' u u' := by
  cases h with
  | returning => exact .returning
  | panicking h => exact .panicking (h.mono hg hs)
theorem ModeR.settle {u : Mode} {u' : FrameMode} (h : ModeR Γ w u u') : ModeR Γ w (settleM u) (Go.settle u') := by
  cases h with
  | returning => exact .returning
  | @panicking v v' r h => cases r with
    | true => exact .returning
    | false => exact .panicking h
theorem ModeR.notRun {u : Mode} {u' : FrameMode} (h : ModeR Γ w u u') : u' ≠ .run := by cases h <;> (intro e; cases e)
theorem argsL_lk {args args' : List Value} (h : VRs Γ w args args') : ∀ (i t : Nat), (i ≤ t ∧ t < i + args.length → VR Γ w (lk (argsL i args) t) (args'.getD (t - i) Go.undef)) ∧ (¬ (i ≤ t ∧ t < i + args.length) → lk (argsL i args) t = Iv.poison) := by
  induction args generalizing args' with
  | nil => intro i t; exact ⟨fun x => by simp at x; omega, fun _ => rfl⟩
  | cons v args ih =>
    intro i t
    cases h with
    | @cons _ v' _ l' hv ht =>
      obtain ⟨h1, h2⟩ := ih ht (i + 1) t
      simp only [argsL, lk]
      by_cases e : i = t
      · subst e
        refine ⟨fun _ => by simpa using hv, fun x => absurd ⟨Nat.le_refl _, by simp⟩ x⟩
      · rw [beq_ne e]
        simp only [cond_false, List.length_cons]
        refine ⟨fun x => ?_, fun x => h2 (by omega)⟩
        have := h1 ⟨by omega, by omega⟩
        have e2 : t - i = (t - (i + 1)) + 1 := by omega
        rw [e2]; simpa using this
theorem frame_rel {fi : FI} {fn : Func} {args : List Value} {args' : Array Value} (hn : fi.nt = fn.ntmps) (hfit : fits fn args = true) (h : VRs Γ w args args'.toList) :
    TR Γ w fi (frameOf args) (args' ++ Array.replicate (fn.ntmps - args'.size) Go.undef) := by
  have hl : args.length = args'.size := by simpa using h.length
  have hle : args.length ≤ fn.ntmps := Nat.le_of_ble_eq_true hfit
  refine ⟨by simp; omega, fun t => ?_⟩
  unfold lkE frameOf
  cases hc : cls fi t with
  | out => exact .poison _
  | tmp => exact .poison _
  | loc =>
    simp only
    obtain ⟨h1, h2⟩ := argsL_lk h 0 t
    by_cases ht : t < args.length
    · have := h1 ⟨Nat.zero_le _, by omega⟩
      have e : (args' ++ Array.replicate (fn.ntmps - args'.size) Go.undef).getD t Go.undef = args'.toList.getD (t - 0) Go.undef := by
        simp [Array.getD_eq_getD_getElem?, List.getD_eq_getElem?_getD, Array.getElem?_append, show t < args'.size by omega]
      rw [e]; exact this
    · rw [h2 (by omega)]; exact .poison _
def DPost (Γ : Ga) (H : IH) (w : World) (u : Mode) (H' : IH) (e : Ending) (u' : FrameMode) (w' : World) : Prop :=
  (∃ v, e = .returned v) ∧ ∃ Γ', ModeR Γ' w' u u' ∧ Rh Γ' H' w' ∧ Ext Γ H w Γ' H' w'
theorem plainD_sound {sf : Self} (S : Sound P sf) (hen : Enters P sf) (hdr : DrawOK P sf) (hng : noNG P = true) {f : FuncId} {fn : Func} {c : Code} (hf : P.funcs[f]? = some fn) (hb : fn.body = some c) {fi : FI} (hn : fi.nt = fn.ntmps) {args : List Value} {args' : Array Value}
    (h : evPlainD P sf fi fn c args H = some H') (hR : Rh Γ H w) (ha : VRs Γ w args args'.toList) {u : Mode} {u' : FrameMode} (hu : ModeR Γ w u u') : CallsDIn Fence.wide 0 P f args' u' w (DPost Γ H w u H') := by
  unfold evPlainD at h
  split at h
  case isFalse => cases h
  rename_i hfit
  have hst : St Γ H w fi (frameOf args) [] { tmps := args' ++ Array.replicate (fn.ntmps - args'.size) Go.undef, defers := [] } := ⟨hR, frame_rel hn hfit ha, .nil⟩
  have main : ∀ {x : X} {T : En} {H1 : IH} {D : List Deferred}, evCode P sf fi none c (frameOf args) H [] = some (x, T, H1, D) → (x = .normal ∨ x = .ret) → D = [] →
      (∃ v, resultsOf P fi fn T H1 = some v) → H1 = H' → CallsDIn Fence.wide 0 P f args' u' w (DPost Γ H w u H') := by
    rintro x T H1 D hx hxx rfl ⟨v, hv⟩ rfl
    refine (callsDIn_of_wp (R := fun e w' => (∃ v, e = .returned v) ∧ ∃ Γ', Γ.le Γ' ∧ Rh Γ' H1 w' ∧ Ext Γ H w Γ' H1 w') hf hb trivial ?_).mono ?_
    · refine wpIn_mono (evCode_sound S hen hdr hng c hx (fun _ e => by cases e) hst).1 ?_
      rintro e a1 w1 ⟨Γ1, hx1, hst1, hE1⟩
      simp only at hx1 hst1 hE1
      have hd : a1.defers = [] := by have := hst1.defs; generalize a1.defers = ds at this; cases this; rfl
      obtain ⟨v', hr, -⟩ := results_run (P := P) hst1.rh hst1.tmps hv
      rcases hxx with rfl | rfl
      · cases hx1; exact ⟨hd, v', hr, ⟨_, rfl⟩, Γ1, hE1.le hR, hst1.rh, hE1⟩
      · cases hx1; exact ⟨hd, v', hr, ⟨_, rfl⟩, Γ1, hE1.le hR, hst1.rh, hE1⟩
    · rintro e u1 w1 ⟨rfl, hv1, Γ1, hle, hR1, hE1⟩
      exact ⟨hv1, Γ1, hu.mono hle hE1.same, hR1, hE1⟩
  split at h
  · rename_i T H1 hx
    split at h
    · rename_i v hv; cases h; exact main hx (.inl rfl) rfl ⟨v, hv⟩ rfl
    · cases h
  · rename_i T H1 hx
    split at h
    · rename_i v hv; cases h; exact main hx (.inr rfl) rfl ⟨v, hv⟩ rfl
    · cases h
  · cases h
theorem evOpsR_sound {sf : Self} {fi : FI} {ops : Array Oper} {c₀ : Frame} {cs : List Frame} {res : En × IH × Mode} (l : List Oper) :
    ∀ (is : List Nat) (T : En) (H : IH) (u : Mode) (u' : FrameMode) (a : Act) (w : World) (Γ : Ga) (Q : Exit → Act → List Frame → World → Prop), is.map (ops[·]?) = l.map some → (∀ o ∈ l, plainOp o = true) →
    evOpsR P sf fi ops l T H u = some res → Rh Γ H w → TR Γ w fi T a.tmps → a.defers = [] → ModeR Γ w u u' →
    (∀ a' w' Γ' u2, a'.defers = [] → TR Γ' w' fi res.1 a'.tmps → Rh Γ' res.2.1 w' → ModeR Γ' w' res.2.2 u2 → Ext Γ H w Γ' res.2.1 w' → Q .normal a' ({ c₀ with mode := u2 } :: cs) w') →
    wpOpsSIn Fence.wide 0 P ops Q is a ({ c₀ with mode := u' } :: cs) w := by
  induction l with
  | nil =>
    intro is T H u u' a w Γ Q his _ h hR hT hd hu hq
    have : is = [] := by simpa using his
    subst this
    cases h
    exact hq a w Γ u' hd hT hR hu (.refl _ _ _)
  | cons o l ih =>
    intro is T H u u' a w Γ Q his hpl h hR hT hd hu hq
    cases is with
    | nil => cases his
    | cons i is =>
      simp only [List.map_cons, List.cons.injEq] at his
      obtain ⟨hi, his⟩ := his
      have hpl' : ∀ o ∈ l, plainOp o = true := fun x hx => hpl x (List.mem_cons_of_mem _ hx)
      have hdp : ∀ (dst : Option Tmp) (v : Value), (a.put dst v).defers = [] := fun dst v => by cases dst <;> exact hd
      simp only [wpOpsSIn, hi]
      refine ⟨fun f _ => trivial, ?_⟩
      unfold evOpsR at h
      split at h
      · rename_i hw
        rw [wanted_eq hT hw, if_pos rfl]
        have next : ∀ {T' : En} {H1 : IH} {u1 : Mode} {u1' : FrameMode} {a' : Act} {Γ1 : Ga} {w1 : World}, evOpsR P sf fi ops l T' H1 u1 = some res → TR Γ1 w1 fi T' a'.tmps → Rh Γ1 H1 w1 → a'.defers = [] → ModeR Γ1 w1 u1 u1' → Ext Γ H w Γ1 H1 w1 →
            wpOpsSIn Fence.wide 0 P ops Q is a' ({ c₀ with mode := u1' } :: cs) w1 := by
          intro T' H1 u1 u1' a' Γ1 w1 h1 hT1 hR1 hd1 hu1 hE
          exact ih is T' H1 u1 u1' a' w1 Γ1 Q his hpl' h1 hR1 hT1 hd1 hu1 fun a2 w2 Γ2 u2 q1 q2 q3 q4 q5 => hq a2 w2 Γ2 u2 q1 q2 q3 q4 (hE.trans q5)
        split at h
        · rename_i args ats ho
          have hrun : (execOp a.eval o).run P w = .ok .recover w := by
            simp only [execOp, ho, resolve, invoke, builtin, Sem.run_bind, Sem.run_pure, Result.andThen_ok]
          rw [hrun]
          simp only
          split at h
          · rename_i v
            cases hu with
            | panicking hv =>
              simp only [recoverD]
              exact next h (hT.put o.dst hv) hR (hdp _ _) (.panicking hv) (.refl _ _ _)
          · rename_i u hne
            have hnone : recoverD ({ c₀ with mode := u' } :: cs) = none := by
              cases hu with
              | returning => rfl
              | @panicking v v' r hv => cases r with
                | true => rfl
                | false => exact absurd rfl (hne v)
            rw [hnone]
            simp only
            exact next h (hT.put o.dst .nilIface) hR (hdp _ _) hu (.refl _ _ _)
        · have hpo := hpl o (List.mem_cons_self ..)
          split at h
          · rename_i v H1 ho
            obtain ⟨v', w', Γ', hr, hv, hR1, hE⟩ := evOp_good (a := a) hR (VR.opd hR hT) hpo ho
            rw [hr]
            exact next h ((hT.ext hR hE).put o.dst hv) hR1 (hdp _ _) (hu.mono (hE.le hR) hE.same) hE
          · rename_i H1 ho
            obtain ⟨w', Γ', hr, hR1, hE⟩ := evOp_good (a := a) hR (VR.opd hR hT) hpo ho
            rw [hr]
            exact next h ((hT.ext hR hE).put o.dst .undef) hR1 (hdp _ _) (hu.mono (hE.le hR) hE.same) hE
          · cases h
      · rename_i hw
        rw [wanted_eq hT hw, if_neg (by simp)]
        exact ih is _ _ _ _ _ _ _ _ his hpl' h hR (hT.put o.dst .undef) (hdp _ _) hu hq
      · cases h
end Go.Iv
