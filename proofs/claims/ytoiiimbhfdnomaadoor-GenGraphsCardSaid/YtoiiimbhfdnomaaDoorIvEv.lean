/- What the evaluator says of a whole call is so. -/
import Derived.Test.YtoiiimbhfdnomaaDoorIvCall
set_option linter.unusedSimpArgs false
set_option linter.unusedVariables false
namespace Go.Iv
open Go
variable {P : Program} {Γ Γ' : Ga} {H H' : IH} {w w' : World} {a : Act}
theorem calls_plain {ops : Array Oper} (h : calls ops = false) : ∀ o ∈ ops.toList, plainOp o = true := by
  intro o ho
  unfold calls at h
  rw [List.any_eq_false] at h
  have := h o ho
  unfold plainOp
  split
  · rename_i c hc
    split
    · rfl
    · rename_i hn
      exfalso
      apply this
      rw [hc]
      obtain ⟨callee, args, ats⟩ := c
      cases callee with
      | builtin b => exact absurd rfl (hn b)
      | _ => rfl
  · rfl
theorem evCallD_sound {hint : Hint} {sf : Self} (S : Sound P sf) (hen : Enters P sf) (hdr : DrawOK P sf) (hng : noNG P = true) {f : FuncId} {args : List Value} {args' : Array Value} {u u1 : Mode}
    (h : evCallD P hint sf f args u H = some (u1, H')) (hR : Rh Γ H w) (ha : VRs Γ w args args'.toList) {u' : FrameMode} (hu : ModeR Γ w u u') :
    (∃ fn c, P.funcs[f]? = some fn ∧ fn.body = some c) ∧ CallsDIn Fence.wide 0 P f args' u' w (DPost Γ H w u1 H') := by
  unfold evCallD at h
  split at h
  · rename_i fn hf
    split at h
    · rename_i id ops rest hb
      refine ⟨⟨fn, _, hf, hb⟩, ?_⟩
      split at h
      · rename_i hc
        simp only [Bool.and_eq_true, Bool.not_eq_true'] at hc
        obtain ⟨hc, hfit⟩ := hc
        split at h
        · rename_i T H1 u2 hx
          have main : ∀ {x : X} {T2 : En} {H2 : IH} {D : List Deferred}, evCode P sf (fiOf hint f fn) none rest T H1 [] = some (x, T2, H2, D) → (x = .normal ∨ x = .ret) → D = [] →
              fn.results.isEmpty = true → u2 = u1 → H2 = H' → CallsDIn Fence.wide 0 P f args' u' w (DPost Γ H w u1 H') := by
            rintro x T2 H2 D hrest hxx rfl he rfl rfl
            refine callsDIn_of_wpSIn hf hb trivial fun c₀ cs hm => ?_
            have hc₀ : c₀ = { c₀ with mode := u' } := by subst hm; rfl
            refine wpSIn_seq (wpSIn_region ?_)
            rw [hc₀]
            refine evOpsR_sound (c₀ := c₀) (cs := cs) ops.toList _ _ _ _ _ _ _ _ _ (range_ops ops) (calls_plain hc.2) hx hR (frame_rel rfl hfit ha) rfl hu ?_
            intro a1 w1 Γ1 u3 q1 q2 q3 q4 q5
            simp only [Exit.thenS]
            refine wpSIn_of_wpIn rfl (wpIn_mono (evCode_sound S hen hdr hng rest hrest (fun _ e => by cases e) ⟨q3, q2, by rw [q1]; exact .nil⟩).1 ?_)
            rintro e a2 w2 ⟨Γ2, hx2, hst2, hE2⟩
            simp only at hx2 hst2 hE2
            have hd : a2.defers = [] := by have := hst2.defs; generalize a2.defers = ds at this; cases this; rfl
            have hres : (results fn a2.tmps).run P w2 = .ok (.tuple #[]) w2 := by
              have : fn.results = #[] := by simpa using he
              exact results_none this _ _ _
            have hfin : bodyPostS P fn { c₀ with mode := u' } cs (DPost Γ H w u2 H2) .normal a2 ({ c₀ with mode := u3 } :: cs) w2 :=
              ⟨hd, u3, rfl, _, hres, ⟨_, rfl⟩, Γ2, q4.mono (hE2.le q3) hE2.same, hst2.rh, q5.trans hE2⟩
            rcases hxx with rfl | rfl
            · cases hx2; exact hfin
            · cases hx2; exact hfin
          split at h
          · rename_i T2 H2 hr
            split at h
            · rename_i he; cases h; exact main hr (.inl rfl) rfl he rfl rfl
            · cases h
          · rename_i T2 H2 hr
            split at h
            · rename_i he; cases h; exact main hr (.inr rfl) rfl he rfl rfl
            · cases h
          · cases h
        · cases h
      · split at h
        · rename_i H1 hp; cases h; exact plainD_sound S hen hdr hng hf hb rfl hp hR ha hu
        · cases h
    · rename_i c hne hb
      refine ⟨⟨fn, _, hf, hb⟩, ?_⟩
      split at h
      · rename_i H1 hp; cases h; exact plainD_sound S hen hdr hng hf hb rfl hp hR ha hu
      · cases h
    · cases h
  · cases h
theorem evLeave_sound {hint : Hint} {sf : Self} (S : Sound P sf) (hen : Enters P sf) (hdr : DrawOK P sf) (hng : noNG P = true) {fi : FI} {fn : Func} {T : En} {tm : Array Value} {Γ0 : Ga} {H0 : IH} {w0 : World} {e : End} (ds : List Deferred) :
    ∀ {ds' : List Deferred} {u : Mode} {u' : FrameMode} {H : IH} {Γ : Ga} {w : World}, evLeave P hint sf fi fn T ds u H = some (e, H') → Rh Γ H w → TR Γ w fi T tm → DsR Γ w ds ds' → ModeR Γ w u u' → Ext Γ0 H0 w0 Γ H w →
    LeavesInM Fence.wide 0 P fn tm (CPost Γ0 H0 w0 e H') ds' u' w := by
  induction ds with
  | nil =>
    intro ds' u u' H Γ w h hR hT hd hu hE
    cases hd
    unfold evLeave at h
    cases hu with
    | returning =>
      simp only at h
      split at h
      · rename_i v hv
        cases h
        obtain ⟨v', h1, h2⟩ := results_run (P := P) hR hT hv
        exact ⟨v', h1, Γ, .returned h2, hR, hE⟩
      · cases h
    | @panicking v v' r hv => cases r with
      | true => cases h
      | false => cases h; exact ⟨Γ, .panicked hv, hR, hE⟩
  | cons d ds ih =>
    intro ds' u u' H Γ w h hR hT hd hu hE
    cases hd with
    | @cons _ d' _ ds' hd1 hds =>
    unfold evLeave at h
    refine ⟨hu.notRun, ?_⟩
    rcases hd1 with ⟨r, ht, hdr', rfl⟩ | ⟨fv, c, c', as', hpl, ht, rfl, hc, has⟩
    · rw [ht] at h
      simp only at h
      split at h
      · rename_i hb
        split at h
        · rename_i hro
          left
          have hblk : w.heap[(Γ.φ r).1]? = some (.deferred (some [])) := hR.obj r _ hb
          have hlt := (Array.getElem?_eq_some_iff.1 hblk).1
          have hs : Same w (w.putObj (Γ.φ r).1 (.deferred none)) := by
            intro b cs e f hb'
            refine ⟨cs, f, ?_, rfl⟩
            by_cases e1 : b = (Γ.φ r).1
            · subst e1; rw [hblk] at hb'; cases hb'
            · rw [World.putObj_heap_other e1]; exact hb'
          obtain ⟨hR1, hE1⟩ := hR.turn (w' := w.putObj (Γ.φ r).1 (.deferred none)) (.dfr false) hb hro (by simp) rfl rfl rfl hs (fun x hx => World.putObj_heap_other hx) (World.putObj_heap_same hlt)
          refine ⟨_, _, rfl, run_takeDeferred hblk, ih h hR1 (hT.ext hR hE1) (hds.mono (hE1.le hR) hE1.same) (hu.mono (hE1.le hR) hE1.same) (hE.trans hE1)⟩
        · cases h
      · cases h
    · rw [ht] at h
      split at h
      · rename_i e1; cases e1
      · rename_i f c1 e1
        cases e1
        split at h
        · rename_i u2 H2 hcd
          right
          obtain ⟨⟨fn1, cd, hf1, hb1⟩, hD⟩ := evCallD_sound S hen hdr hng hcd hR (args' := as' ++ c') (by simpa using has.append hc) hu
          refine ⟨FO_depth (Γ := Γ) none _, _, _, f, as' ++ c', rfl, invoke_enter hng hf1 hb1 _ _ _, fun g _ => trivial, hD.mono ?_⟩
          rintro e2 u3 w2 ⟨⟨v, rfl⟩, Γ2, hu2, hR2, hE2⟩
          exact ih h hR2 (hT.ext hR hE2) (hds.mono (hE2.le hR) hE2.same) hu2.settle (hE.trans hE2)
        · cases h
      · cases h
theorem evCall_sound {hint : Hint} {sf : Self} (S : Sound P sf) (hen : Enters P sf) (hdr : DrawOK P sf) (hng : noNG P = true) {f : FuncId} {args : List Value} {args' : Array Value} {e : End}
    (h : evCall P hint sf f args H = some (e, H')) (hR : Rh Γ H w) (ha : VRs Γ w args args'.toList) : CallsIn Fence.wide 0 P f args' w (CPost Γ H w e H') := by
  unfold evCall at h
  split at h
  · rename_i fn hf
    split at h
    · rename_i c hb
      split at h
      case isFalse => cases h
      rename_i hfit
      refine callsIn_of_wp_marks hf hb trivial ?_
      have hst : St Γ H w (fiOf hint f fn) (frameOf args) [] { tmps := args' ++ Array.replicate (fn.ntmps - args'.size) Go.undef, defers := [] } := ⟨hR, frame_rel rfl hfit ha, .nil⟩
      cases hx : evCode P sf (fiOf hint f fn) none c (frameOf args) H [] with
      | none => rw [hx] at h; cases h
      | some rx =>
        rw [hx] at h
        obtain ⟨ex, T1, H1, D1⟩ := rx
        refine wpIn_mono (evCode_sound S hen hdr hng c hx (fun _ e => by cases e) hst).1 ?_
        rintro e1 a1 w1 ⟨Γ1, hx1, hst1, hE1⟩
        simp only at hx1 hst1 hE1
        cases hx1 with
        | normal => exact evLeave_sound S hen hdr hng D1 h hst1.rh hst1.tmps hst1.defs .returning hE1
        | ret => exact evLeave_sound S hen hdr hng D1 h hst1.rh hst1.tmps hst1.defs .returning hE1
        | panic hv => exact evLeave_sound S hen hdr hng D1 h hst1.rh hst1.tmps hst1.defs (.panicking hv) hE1
        | exit id => cases h
    · cases h
  · cases h
theorem evCall_enters {hint : Hint} {sf : Self} {f : FuncId} {args : List Value} {e : End} (h : evCall P hint sf f args H = some (e, H')) : ∃ fn c, P.funcs[f]? = some fn ∧ fn.body = some c := by
  unfold evCall at h
  split at h
  · rename_i fn hf
    split at h
    · rename_i c hb; exact ⟨fn, c, hf, hb⟩
    · cases h
  · cases h
def SpecOK (P : Program) (spec : Spec) : Prop := ∀ {f : FuncId} {args : List Value} {H : IH} {e : End} {H' : IH}, spec f args H = some (e, H') →
  (∃ fn c, P.funcs[f]? = some fn ∧ fn.body = some c) ∧ ∀ {Γ : Ga} {w : World} {args' : Array Value}, Rh Γ H w → VRs Γ w args args'.toList → CallsIn Fence.wide 0 P f args' w (CPost Γ H w e H')
theorem noSpec_ok (P : Program) : SpecOK P noSpec := fun h => by cases h
theorem ev_sound {hint : Hint} {spec : Spec} (hng : noNG P = true) (hdr : ∀ sf, Sound P sf → DrawOK P sf) (hsp : SpecOK P spec) : ∀ n, Sound P (ev P hint spec n) ∧ Enters P (ev P hint spec n) := by
  intro n
  induction n with
  | zero =>
    refine ⟨⟨?_, ?_, ?_⟩, ?_⟩
    · intro fi ro c T H D r Γ w a h; cases h
    · intro fi ro c T H D r Γ w a h; cases h
    · intro f args H e H' Γ w args' h; cases h
    · intro f args H e H' h; cases h
  | succ n ih =>
    obtain ⟨S, hen⟩ := ih
    have hd : DrawOK P (ev P hint spec n) := fun h hro hst => hdr _ S h hro hst
    refine ⟨⟨?_, ?_, ?_⟩, ?_⟩
    · intro fi ro c T H D r Γ w a h hro hst; exact (evCode_sound S hen hd hng _ h hro hst).1
    · intro fi ro c T H D r Γ w a h hro hst; exact (evCode_sound S hen hd hng _ h hro hst).2 _ rfl
    · intro f args H e H' Γ w args' h hR ha
      have h' : evCallS P hint spec (ev P hint spec n) f args H = some (e, H') := h
      unfold evCallS at h'
      split at h'
      · rename_i r hs; cases h'; exact (hsp hs).2 hR ha
      · exact evCall_sound S hen hd hng h' hR ha
    · intro f args H e H' h
      have h' : evCallS P hint spec (ev P hint spec n) f args H = some (e, H') := h
      unfold evCallS at h'
      split at h'
      · rename_i r hs; cases h'; exact (hsp hs).1
      · exact evCall_enters h'
end Go.Iv
