/- The operations, one by one (the sixth part): the builtin functions, conversions. -/
import Derived.Test.YtoiiimbhfdnomaaDoorIvOpsE
import Derived.Laws.BytesString
namespace Go.Iv
open Go

variable {P : Program} {Γ : Ga} {H : IH} {w : World}

theorem one_arg {x : Value} {args : Array Value} (h : VRs Γ w [x] args.toList) : ∃ x', args = #[x'] ∧ VR Γ w x x' := by
  obtain ⟨l⟩ := args
  cases h with
  | cons h1 t => cases t; exact ⟨_, rfl, h1⟩

set_option maxHeartbeats 2000000 in
/-- An append of nothing to nothing. -/
theorem append_none {t xt ty e : TypeId} {i : TypeInfo} {ats : Array TypeId} (h0 : ats[0]? = some t) (h1 : ats[1]? = some xt) (hx : isInt P xt = false) (hu : P.underlying t = some (.slice e)) (hi : P.info? e = some i)
    {sLen sCap : Nat} {x' : Value} (hlen : (Builtin.lenOf x').run P w = .ok 0 w) (hfit : sLen + 0 ≤ sCap) (hnew : (Builtin.firstCells i.size 0 x').run P w = .ok #[] w) :
    (Builtin.append_ ats ty #[.slice none sLen sCap, x']).run P w = .ok (.slice none sLen sCap) w := by
  obtain ⟨d, hd, hnd⟩ := isInt_spec hx
  have hfit' : sLen ≤ sCap := hfit
  cases d <;> first
    | exact absurd rfl (hnd _)
    | simp [Builtin.append_, h0, h1, run_underlying hu, run_underlying hd, run_sizeOf' hi, hlen, hfit', hnew]

theorem evAppend_good (hR : Rh Γ H w) {ats : Array TypeId} {ty : TypeId} {s x s' x' : Value} {res : OpRes} (h : evAppend P H ats s x = some res) (hs : VR Γ w s s') (hx : VR Γ w x x') :
    Good Γ H w ((asNext (Builtin.append_ ats ty #[s', x'])).run P w) res := by
  unfold evAppend at h
  split at h
  · rename_i t xt h0 h1
    split at h
    · cases h
    · rename_i hxt
      have hxt' : isInt P xt = false := by simpa using hxt
      split at h
      · rename_i e i n he hct
        obtain ⟨hu, hi⟩ := elemSize_spec he
        split at h
        · rename_i z new hz hsl
          split at h
          · rename_i hcond
            simp only [Bool.and_eq_true, decide_eq_true_eq, beq_iff_eq] at hcond
            obtain ⟨⟨⟨hsz, hzs⟩, hln⟩, hone⟩ := hcond
            split at h
            · rename_i hn
              subst hn
              split at h
              · rename_i a l c
                cases h
                have hnil : ∀ (a' : Option Addr) (c' : Nat), l ≤ c' → s' = .slice a' l c' → (Builtin.append_ ats ty #[s', x']).run P w = .ok s' w := by
                  intro a' c' hlc e1
                  subst e1
                  obtain ⟨d, hd, hnd⟩ := isInt_spec hxt'
                  have hlen : (Builtin.lenOf x').run P w = .ok 0 w ∧ (Builtin.firstCells i.size 0 x').run P w = .ok #[] w := by
                    cases x with
                    | slice ax lx cx =>
                      simp only [countOf, Option.some.injEq] at hct
                      subst hct
                      cases ax with
                      | none => obtain ⟨_, _, rfl⟩ := hx.snilE; exact ⟨rfl, rfl⟩
                      | some ax =>
                        obtain ⟨b1, o1, _, _, hsr⟩ := hx.sliceE
                        rcases hsr with ⟨_, _, a2, rfl, _⟩ | ⟨s2, c2, a2, _, rfl, _, _⟩ <;> exact ⟨rfl, by simp [Builtin.firstCells, loadCells, loadCellsFrom]⟩
                    | string sx =>
                      simp only [countOf, Option.some.injEq] at hct
                      rw [hx.stringE]
                      refine ⟨by simp [Builtin.lenOf, hct], ?_⟩
                      simp [Builtin.firstCells]
                    | _ => simp [countOf] at hct
                  cases a' with
                  | some a' => exact append_fit (news := #[]) h0 h1 hxt' hu hi hlen.1 (by omega) hlen.2 (by simp [storeCells])
                  | none => exact append_none h0 h1 hxt' hu hi hlen.1 (by omega) hlen.2
                cases a with
                | none =>
                  obtain ⟨rfl, rfl, e1⟩ := hs.snilE
                  exact good_same hR hs (run_asNext (hnil none 0 (Nat.le_refl _) e1))
                | some a =>
                  obtain ⟨b1, o1, _, _, hsr⟩ := hs.sliceE
                  rcases hsr with ⟨_, hlc, a2, e1, _⟩ | ⟨s2, c2, a2, _, e1, hlc, _⟩
                  · exact good_same hR hs (run_asNext (hnil _ _ hlc e1))
                  · exact good_same hR hs (run_asNext (hnil _ _ hlc e1))
              · cases h
            · exact evAppendTo_good hR h0 h1 hxt' hu hi hz hzs hsl hct (by omega) hsz hln hone h hs hx
          · cases h
        · cases h
      · cases h
  · cases h

theorem evLen_good (hR : Rh Γ H w) {ats : Array TypeId} {t ty : TypeId} (h0 : ats[0]? = some t) {x x' v : Value} (h : evLen P H t x = some v) (hx : VR Γ w x x') : (Builtin.len_ ats ty #[x']).run P w = .ok v w ∧ free1 v = true := by
  unfold evLen at h
  split at h
  · rename_i s hu
    cases h; rw [hx.stringE]
    exact ⟨by simp [Builtin.len_, h0, run_underlying hu, goInt], rfl⟩
  · rename_i n e hu
    cases h
    exact ⟨by simp [Builtin.len_, h0, run_underlying hu, goInt], rfl⟩
  · rename_i e a n c hu
    cases h
    cases a with
    | none => obtain ⟨rfl, _, rfl⟩ := hx.snilE; exact ⟨by simp [Builtin.len_, h0, run_underlying hu, goInt], rfl⟩
    | some a =>
      obtain ⟨b1, o1, _, _, hsr⟩ := hx.sliceE
      rcases hsr with ⟨_, _, a2, rfl, _⟩ | ⟨s2, c2, a2, _, rfl, _, _⟩ <;> exact ⟨by simp [Builtin.len_, h0, run_underlying hu, goInt], rfl⟩
  · rename_i k e hu
    cases h; rw [hx.mnilE]
    exact ⟨by simp [Builtin.len_, h0, run_underlying hu, goInt], rfl⟩
  · rename_i k e r hu
    split at h
    · rename_i es ck hb
      cases h
      obtain ⟨_, rfl⟩ := hx.mapE
      obtain ⟨es', ho, hE⟩ := hR.obj r _ hb
      have hlen : es'.size = es.length := by
        have : ∀ {a b : List MapEntry}, EntR Γ w a b → a.length = b.length := by
          intro a b hab
          induction hab with
          | nil => rfl
          | cons _ _ _ _ _ ih => simp [ih]
        simpa using (this hE).symm
      refine ⟨?_, rfl⟩
      simp [Builtin.len_, h0, run_underlying hu, getObj_map ho, hlen, goInt]
    · cases h
  · cases h

theorem evCopy_good (hR : Rh Γ H w) {ats : Array TypeId} {ty : TypeId} {d x d' x' : Value} {res : OpRes} (h : evCopy P H ats d x = some res) (hd : VR Γ w d d') (hx : VR Γ w x x') :
    Good Γ H w ((asNext (Builtin.copy_ ats ty #[d', x'])).run P w) res := by
  unfold evCopy at h
  split at h
  · rename_i t base dLen cap sl h0 hct
    split at h
    · rename_i e i he
      obtain ⟨hu, hi⟩ := elemSize_spec he
      have hd' : ∃ base' cap', d' = .slice base' dLen cap' ∧ (∀ b off s, base = some ⟨b, off, s⟩ → 0 < dLen → s = none ∧ base' = some (Γ.at b off)) := by
        cases base with
        | none => obtain ⟨rfl, rfl, rfl⟩ := hd.snilE; exact ⟨_, _, rfl, fun _ _ _ e => by cases e⟩
        | some a =>
          obtain ⟨b1, o1, rfl, _, hsr⟩ := hd.sliceE
          rcases hsr with ⟨_, hlc, a2, rfl, ha⟩ | ⟨s2, c2, a2, _, rfl, hlc, hr⟩
          · refine ⟨_, _, rfl, fun b off s e hp => ?_⟩
            cases e
            exact ⟨rfl, by rw [ha.resolve_left (fun x => by omega)]⟩
          · refine ⟨_, _, rfl, fun b off s e hp => ?_⟩
            cases e
            rcases hr with ⟨_, _, _⟩ | ⟨rfl, _⟩
            · omega
            · exact ⟨rfl, rfl⟩
      obtain ⟨base', cap', rfl, hbase⟩ := hd'
      split at h
      · rename_i hmin
        cases h
        have hlenx : (Builtin.lenOf x').run P w = .ok sl w := by
          cases x with
          | slice ax lx cx =>
            simp only [countOf, Option.some.injEq] at hct
            subst hct
            cases ax with
            | none => obtain ⟨rfl, _, rfl⟩ := hx.snilE; rfl
            | some ax =>
              obtain ⟨b1, o1, _, _, hsr⟩ := hx.sliceE
              rcases hsr with ⟨_, _, a2, rfl, _⟩ | ⟨s2, c2, a2, _, rfl, _, _⟩ <;> rfl
          | string sx => simp only [countOf, Option.some.injEq] at hct; rw [hx.stringE, ← hct]; rfl
          | _ => simp [countOf] at hct
        have hfirst : (Builtin.firstCells i.size 0 x').run P w = .ok #[] w := by
          cases x with
          | slice ax lx cx =>
            cases ax with
            | none => obtain ⟨rfl, _, rfl⟩ := hx.snilE; rfl
            | some ax =>
              obtain ⟨b1, o1, _, _, hsr⟩ := hx.sliceE
              rcases hsr with ⟨_, _, a2, rfl, _⟩ | ⟨s2, c2, a2, _, rfl, _, _⟩ <;> simp [Builtin.firstCells, loadCells, loadCellsFrom]
          | string sx => rw [hx.stringE]; simp [Builtin.firstCells]
          | _ => simp [countOf] at hct
        refine good_same hR (.int _ _) (run_asNext ?_)
        cases base' <;> simp [Builtin.copy_, h0, run_underlying hu, hlenx, hmin, run_sizeOf' hi, hfirst, goInt, storeCells]
      · rename_i hmin
        split at h
        · rename_i cs b off hsl
          split at h
          · rename_i H' hst
            cases h
            have hpos : 0 < Nat.min sl dLen := by omega
            obtain ⟨new', hnew, hfirst, hlen⟩ := first_run (P := P) hR hsl hct hpos (Nat.min_le_left _ _) hx
            obtain ⟨_, rfl⟩ := hbase b off none rfl (Nat.lt_of_lt_of_le hpos (Nat.min_le_right _ _))
            obtain ⟨w', h3, h4, h5⟩ := stCells_run (P := P) hR hst hnew
            refine ⟨_, w', Γ, run_asNext (v := .int .i64 (Nat.min sl dLen)) ?_, .int _ _, h4, h5⟩
            have hfirst' := hfirst w rfl
            simp [Builtin.copy_, h0, run_underlying hu, hlen, run_sizeOf' hi, hfirst', h3, goInt]
          · cases h
        · cases h
    · cases h
  · cases h

end Go.Iv
