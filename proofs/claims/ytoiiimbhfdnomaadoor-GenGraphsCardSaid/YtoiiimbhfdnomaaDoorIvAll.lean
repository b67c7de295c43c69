/- What the evaluator says is so: code and calls. -/
import Derived.Test.YtoiiimbhfdnomaaDoorIvRun
set_option linter.unusedSimpArgs false
set_option linter.unusedVariables false
namespace Go.Iv
open Go
variable {P : Program} {Γ Γ' : Ga} {H H' : IH} {w w' : World} {a : Act}
theorem evCode_sound {sf : Self} (S : Sound P sf) (hen : Enters P sf) (hdr : DrawOK P sf) (hng : noNG P = true) {fi : FI} {ro : Option Nat} (c : Code) :
    ∀ {T : En} {H : IH} {D : List Deferred} {r : X × En × IH × List Deferred} {Γ : Ga} {w : World} {a : Act},
    evCode P sf fi ro c T H D = some r → RoOK Γ ro → St Γ H w fi T D a → c.wpIn (FO Γ ro) 0 P (Post Γ H w fi r) a w ∧ ∀ c', c = .loop c' → wpLp (FO Γ ro) 0 P c' (Post Γ H w fi r) a w := by
  induction c with
  | skip => intro T H D r Γ w a h hro hst; cases h; exact ⟨wpIn_skip ⟨Γ, .normal, hst, .refl Γ H w⟩, fun c' e => by cases e⟩
  | label l => intro T H D r Γ w a h hro hst; cases h; exact ⟨wpIn_label ⟨Γ, .normal, hst, .refl Γ H w⟩, fun c' e => by cases e⟩
  | exit id => intro T H D r Γ w a h hro hst; cases h; exact ⟨wpIn_exit ⟨Γ, .exit id, hst, .refl Γ H w⟩, fun c' e => by cases e⟩
  | ret => intro T H D r Γ w a h hro hst; cases h; exact ⟨wpIn_ret ⟨Γ, .ret, hst, .refl Γ H w⟩, fun c' e => by cases e⟩
  | goto l => intro T H D r Γ w a h hro hst; cases h
  | refuse s => intro T H D r Γ w a h hro hst; cases h
  | region id ops draw =>
    intro T H D r Γ w a h hro hst
    refine ⟨?_, fun c' e => by cases e⟩
    cases draw with
    | false => exact wpIn_region (evOps_sound S hng _ _ _ _ _ _ _ _ _ (range_ops ops) h hro ⟨hst.rh, hst.tmps.reset, hst.defs⟩ fun _ _ _ h => h)
    | true => exact hdr h hro ⟨hst.rh, hst.tmps.reset, hst.defs⟩
  | scope c ih =>
    intro T H D r Γ w a h hro hst
    exact ⟨wpIn_scope (ih h hro hst).1 fun l a w => Post.notGoto, fun c' e => by cases e⟩
  | rangeFunc f ps asg body _ _ =>
    intro T H D r Γ w a h hro hst
    exact ⟨rangeFunc_sound S hen hng h hro hst, fun c' e => by cases e⟩
  | cond c x y ihx ihy =>
    intro T H D r Γ w a h hro hst
    refine ⟨?_, fun c' e => by cases e⟩
    have hc := VR.opd (a := a) hst.rh hst.tmps c
    unfold evCode at h
    split at h
    · rename_i e; rw [e] at hc; exact wpIn_cond_true hc.boolE (ihx h hro hst).1
    · rename_i e; rw [e] at hc; exact wpIn_cond_false hc.boolE (ihy h hro hst).1
    · cases h
  | seq x y ihx ihy =>
    intro T H D r Γ w a h hro hst
    refine ⟨wpIn_seq ?_, fun c' e => by cases e⟩
    unfold evCode at h
    cases hx : evCode P sf fi ro x T H D with
    | none => rw [hx] at h; cases h
    | some rx =>
      rw [hx] at h
      obtain ⟨ex, T1, H1, D1⟩ := rx
      refine wpIn_mono (ihx hx hro hst).1 ?_
      rintro e1 a1 w1 ⟨Γ1, hx1, hst1, hE1⟩
      simp only at hx1 hst1 hE1
      cases hx1 with
      | normal =>
        simp only at h
        have hle := hE1.le hst.rh
        have := (ihy h (hro.mono hle) hst1).1
        rw [FO_le hle hro] at this
        exact wpIn_mono this fun e a w hp => hp.after hE1
      | exit id => simp only at h; cases h; exact ⟨Γ1, .exit id, hst1, hE1⟩
      | ret => simp only at h; cases h; exact ⟨Γ1, .ret, hst1, hE1⟩
      | panic hv => simp only at h; cases h; exact ⟨Γ1, .panic hv, hst1, hE1⟩
  | block id c ih =>
    intro T H D r Γ w a h hro hst
    refine ⟨wpIn_block ?_, fun c' e => by cases e⟩
    unfold evCode at h
    cases hx : evCode P sf fi ro c T H D with
    | none => rw [hx] at h; cases h
    | some rx =>
      rw [hx] at h
      obtain ⟨ex, T1, H1, D1⟩ := rx
      refine wpIn_mono (ih hx hro hst).1 ?_
      rintro e1 a1 w1 ⟨Γ1, hx1, hst1, hE1⟩
      simp only at hx1 hst1 hE1
      cases hx1 with
      | normal => simp only at h; cases h; exact ⟨Γ1, .normal, hst1, hE1⟩
      | exit j =>
        simp only at h
        simp only [Exit.inBlock]
        split at h
        · rename_i e; cases h; rw [if_pos e]; exact ⟨Γ1, .normal, hst1, hE1⟩
        · rename_i e; cases h; rw [if_neg e]; exact ⟨Γ1, .exit j, hst1, hE1⟩
      | ret => simp only at h; cases h; exact ⟨Γ1, .ret, hst1, hE1⟩
      | panic hv => simp only at h; cases h; exact ⟨Γ1, .panic hv, hst1, hE1⟩
  | loop c ih =>
    intro T H D r Γ w a h hro hst
    have key : wpLp (FO Γ ro) 0 P c (Post Γ H w fi r) a w := by
      refine wpLp_of ?_
      unfold evCode at h
      cases hx : evCode P sf fi ro c T H D with
      | none => rw [hx] at h; cases h
      | some rx =>
        rw [hx] at h
        obtain ⟨ex, T1, H1, D1⟩ := rx
        refine wpIn_mono (ih hx hro hst).1 ?_
        rintro e1 a1 w1 ⟨Γ1, hx1, hst1, hE1⟩
        simp only at hx1 hst1 hE1
        cases hx1 with
        | normal =>
          simp only at h
          have hle := hE1.le hst.rh
          have := S.loop h (hro.mono hle) hst1
          rw [FO_le hle hro] at this
          exact wpLp_mono this fun e a w hp => hp.after hE1
        | exit id => simp only at h; cases h; exact ⟨Γ1, .exit id, hst1, hE1⟩
        | ret => simp only at h; cases h; exact ⟨Γ1, .ret, hst1, hE1⟩
        | panic hv => simp only at h; cases h; exact ⟨Γ1, .panic hv, hst1, hE1⟩
    exact ⟨wpIn_loop_of key, fun c' e => by cases e; exact key⟩
end Go.Iv
