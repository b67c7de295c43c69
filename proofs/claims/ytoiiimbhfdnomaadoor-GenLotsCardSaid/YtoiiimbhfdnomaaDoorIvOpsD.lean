/- The operations, one by one (the fourth part): slices. -/
import Derived.Test.YtoiiimbhfdnomaaDoorIvOpsC
namespace Go.Iv
open Go

variable {P : Program} {Γ : Ga} {H : IH} {w : World}

/-- Related, or both not there. -/
def OptR (Γ : Ga) (w : World) : Option Value → Option Value → Prop
  | none, none => True
  | some v, some v' => VR Γ w v v'
  | _, _ => False

theorem OptR.map_opd {ρ ρ' : Operand → Value} (hv : ∀ x, VR Γ w (ρ x) (ρ' x)) (o : Option Operand) : OptR Γ w (o.map ρ) (o.map ρ') := by
  cases o with
  | none => exact trivial
  | some x => exact hv x

theorem bound_run {y Y n : Nat} {v v' : Value} (h : bound y v = some n) (hv : VR Γ w v v') (hy : y ≤ Y) (code : BoundsCode) : (Instr.sliceBound v' Y code).run P w = .ok n w ∧ n ≤ y := by
  unfold bound at h
  split at h
  · rename_i k i
    split at h
    · rename_i hc
      cases h
      simp only [Bool.and_eq_true, decide_eq_true_eq] at hc
      rw [hv.intE]
      refine ⟨?_, by omega⟩
      have h2 : 0 ≤ i ∧ i ≤ (Y : Int) := by omega
      simp [Instr.sliceBound, asIntOf, h2]
    · cases h
  · cases h

theorem bound_lo {y n : Nat} {o o' : Option Value} (h : boundO y 0 o = some n) (ho : OptR Γ w o o') (code : BoundsCode) :
    n ≤ y ∧ ((o' = none ∧ n = 0) ∨ ∃ v', o' = some v' ∧ (Instr.sliceBound v' y code).run P w = .ok n w) := by
  cases o with
  | none => cases o' with
    | none => simp only [boundO, Option.some.injEq] at h; subst h; exact ⟨Nat.zero_le _, .inl ⟨rfl, rfl⟩⟩
    | some => exact ho.elim
  | some v => cases o' with
    | none => exact ho.elim
    | some v' => obtain ⟨a, b⟩ := bound_run (P := P) h ho (Nat.le_refl _) code; exact ⟨b, .inr ⟨v', rfl, a⟩⟩

/-- The bounds of a slice expression without a third index. -/
theorem bounds_run {b : Bool} {len top cap h l : Nat} {lo hi lo' hi' : Option Value} (hh : boundO top len hi = some h) (hl : boundO h 0 lo = some l) (hlo : OptR Γ w lo lo') (hhi : OptR Γ w hi hi') (htop : top ≤ cap) (hlen : len ≤ top) :
    (Instr.sliceBounds b len cap lo' hi' none).run P w = .ok (l, h, cap) w ∧ l ≤ h ∧ h ≤ top := by
  obtain ⟨h2, h1⟩ := bound_lo (P := P) hl hlo .sliceB
  cases hi with
  | none => cases hi' with
    | some => exact hhi.elim
    | none =>
      simp only [boundO, Option.some.injEq] at hh
      subst hh
      refine ⟨?_, h2, hlen⟩
      rcases h1 with ⟨rfl, rfl⟩ | ⟨v', rfl, h1⟩
      · simp [Instr.sliceBounds]
      · simp [Instr.sliceBounds, h1]
  | some v => cases hi' with
    | none => exact hhi.elim
    | some v' =>
      obtain ⟨h3, h4⟩ := bound_run (P := P) (v := v) hh hhi htop (if b then .sliceAcap else .sliceAlen)
      refine ⟨?_, h2, h4⟩
      rcases h1 with ⟨rfl, rfl⟩ | ⟨v', rfl, h1⟩
      · simp [Instr.sliceBounds, h3]
      · simp [Instr.sliceBounds, h1, h3]

theorem bounds3_run {b : Bool} {len y cap m h l : Nat} {lo lo' : Option Value} {hv hv' mv mv' : Value} (hm : bound y mv = some m) (hh : bound m hv = some h) (hl : boundO h 0 lo = some l) (hlo : OptR Γ w lo lo') (hhi : VR Γ w hv hv')
    (hmv : VR Γ w mv mv') (hy : y ≤ cap) :
    (Instr.sliceBounds b len cap lo' (some hv') (some mv')).run P w = .ok (l, h, m) w ∧ l ≤ h ∧ h ≤ m ∧ m ≤ y := by
  obtain ⟨h2, h1⟩ := bound_lo (P := P) hl hlo .slice3C
  obtain ⟨h3, h4⟩ := bound_run (P := P) hm hmv hy (if b then .slice3Acap else .slice3Alen)
  obtain ⟨h5, h6⟩ := bound_run (P := P) hh hhi (Nat.le_refl _) .slice3B
  refine ⟨?_, h2, h6, h4⟩
  rcases h1 with ⟨rfl, rfl⟩ | ⟨v', rfl, h1⟩
  · simp [Instr.sliceBounds, h3, h5]
  · simp [Instr.sliceBounds, h1, h3, h5]

theorem ba_extract (s : ByteArray) (l h : Nat) : s.extract l h = ba (((bl s).drop l).take (h - l)) := by
  conv => lhs; rw [← ba_bl s]
  exact ByteArray.extract_mk (bl s) l h

theorem evSliceOf_run {t e : TypeId} {i : TypeInfo} (hu : P.underlying t = some (.slice e)) (hi : P.info? e = some i) {a : Option Addr} {len cap : Nat} {x' : Value} {lo hi' mx lo' hi'' mx' : Option Value} {v : Value}
    (h : evSliceOf a i.size len cap lo hi' mx = some v) (hx : VR Γ w (.slice a len cap) x') (hlo : OptR Γ w lo lo') (hhi : OptR Γ w hi' hi'') (hmx : OptR Γ w mx mx') :
    ∃ v', (Instr.sliceAt t x' lo' hi'' mx').run P w = .ok v' w ∧ VR Γ w v v' := by
  have start : ∀ (a' : Option Addr) (len' cap' l h m : Nat), (Instr.sliceBounds true len' cap' lo' hi'' mx').run P w = .ok (l, h, m) w →
      (Instr.sliceAt t (.slice a' len' cap') lo' hi'' mx').run P w = .ok (.slice (if m = l then a' else a'.map (·.add (l * i.size))) (h - l) (m - l)) w := by
    intro a' len' cap' l h m hb
    simp only [Instr.sliceAt, Sem.run_bind, run_underlying hu, Result.andThen_ok, Instr.slice, hb, run_sizeOf' hi, Sem.run_pure]
  unfold evSliceOf at h
  split at h
  · -- nil
    split at h
    · rename_i hb hh
      split at h
      · rename_i l hl
        cases h
        obtain ⟨rfl, rfl, rfl⟩ := hx.snilE
        cases mx' with
        | some => exact hmx.elim
        | none =>
          obtain ⟨h1, h2, h3⟩ := bounds_run (P := P) (b := true) (cap := 0) hh hl hlo hhi (Nat.le_refl _) (Nat.le_refl _)
          refine ⟨_, start _ _ _ _ _ _ h1, ?_⟩
          obtain rfl : l = 0 := by omega
          obtain rfl : hb = 0 := by omega
          exact .snil
      · cases h
    · cases h
  · rename_i b off
    cases mx' with
    | some => exact hmx.elim
    | none =>
      obtain ⟨b1, o1, e1, hd, hs⟩ := hx.sliceE
      cases e1
      split at h
      · rename_i hcap
        split at h
        · rename_i hcs
          have hcs' : cap = unk + i.size := by simpa using hcs
          split at h
          · rename_i hb hh
            split at h
            · rename_i l hl
              cases h
              rcases hs with ⟨hc, _⟩ | ⟨s, c', a', hc, rfl, hlc, hr⟩
              · omega
              · obtain rfl : s = i.size := by omega
                obtain ⟨h1, h2, h3⟩ := bounds_run (P := P) (b := true) (cap := c') hh hl hlo hhi hlc (Nat.le_refl _)
                refine ⟨_, start _ _ _ _ _ _ h1, ?_⟩
                subst hc
                by_cases hcl : c' = l
                · rw [if_pos hcl]
                  exact .sliceU hd (by omega) (.inl ⟨by omega, by omega, by rcases hr with ⟨_, _, x⟩ | ⟨rfl, _⟩ <;> first | exact x | rfl⟩)
                · rw [if_neg hcl]
                  rcases hr with ⟨hc0, hl0, _⟩ | ⟨rfl, hroom⟩
                  · omega
                  · simp only [Option.map_some, at_add]
                    refine .sliceU hd (by omega) (.inr ⟨rfl, ?_⟩)
                    obtain ⟨cs, el, f, hb1, hb2⟩ := hroom
                    refine ⟨cs, el, f, hb1, ?_⟩
                    simp only [Ga.at] at hb2 ⊢
                    rw [Nat.sub_mul]
                    have : l * i.size ≤ c' * i.size := Nat.mul_le_mul_right _ (by omega)
                    omega
            · cases h
          · cases h
        · cases h
      · rename_i hcap
        split at h
        · rename_i hb hh
          split at h
          · rename_i l hl
            cases h
            rcases hs with ⟨hc, hlc, a', rfl, ha⟩ | ⟨s, c', a', hc, rfl, hlc, hr⟩
            · obtain ⟨h1, h2, h3⟩ := bounds_run (P := P) (b := true) (cap := cap) hh hl hlo hhi (Nat.le_refl _) hlc
              refine ⟨_, start _ _ _ _ _ _ h1, ?_⟩
              by_cases hcl : cap = l
              · rw [if_pos hcl]
                exact .slice hd (by omega) (by omega) (.inl ⟨by omega, by rcases ha with ⟨_, x⟩ | rfl <;> first | exact x | rfl⟩)
              · rw [if_neg hcl]
                obtain rfl := ha.resolve_left (fun x => by omega)
                simp only [Option.map_some, at_add]
                exact .slice hd (by omega) (by omega) (.inr rfl)
            · omega
          · cases h
        · cases h
  · rename_i b off mv
    cases mx' with
    | none => exact hmx.elim
    | some mv' =>
      obtain ⟨b1, o1, e1, hd, hs⟩ := hx.sliceE
      cases e1
      split at h
      · rename_i m hm
        split at h
        · rename_i hmu
          split at h
          · rename_i hv
            cases hi'' with
            | none => exact hhi.elim
            | some hv' =>
              split at h
              · rename_i hb hh
                split at h
                · rename_i l hl
                  cases h
                  rcases hs with ⟨hc, hlc, a', rfl, ha⟩ | ⟨s, c', a', hc, rfl, hlc, hr⟩
                  · rw [if_neg (by omega)] at hm
                    obtain ⟨h1, h2, h3, h4⟩ := bounds3_run (P := P) (b := true) (len := len) (cap := cap) hm hh hl hlo hhi hmx (Nat.le_refl _)
                    refine ⟨_, start _ _ _ _ _ _ h1, ?_⟩
                    by_cases hcl : m = l
                    · rw [if_pos hcl]
                      exact .slice hd (by omega) (by omega) (.inl ⟨by omega, by rcases ha with ⟨_, x⟩ | rfl <;> first | exact x | rfl⟩)
                    · rw [if_neg hcl]
                      obtain rfl := ha.resolve_left (fun x => by omega)
                      simp only [Option.map_some, at_add]
                      exact .slice hd (by omega) (by omega) (.inr rfl)
                  · rw [if_pos (by omega)] at hm
                    obtain ⟨h1, h2, h3, h4⟩ := bounds3_run (P := P) (b := true) (len := len) (cap := c') hm hh hl hlo hhi hmx hlc
                    refine ⟨_, start _ _ _ _ _ _ h1, ?_⟩
                    by_cases hcl : m = l
                    · rw [if_pos hcl]
                      exact .slice hd (by omega) (by omega) (.inl ⟨by omega, by rcases hr with ⟨_, _, x⟩ | ⟨rfl, _⟩ <;> first | exact x | rfl⟩)
                    · rw [if_neg hcl]
                      rcases hr with ⟨hc0, hl0, _⟩ | ⟨rfl, hroom⟩
                      · omega
                      · simp only [Option.map_some, at_add]
                        exact .slice hd (by omega) (by omega) (.inr rfl)
                · cases h
              · cases h
          · cases h
        · cases h
      · cases h
  · cases h

theorem evSlice_good (hR : Rh Γ H w) {t : TypeId} {x x' : Value} {lo hi mx lo' hi' mx' : Option Value} {res : OpRes} (h : evSlice P H t x lo hi mx = some res) (hx : VR Γ w x x') (hlo : OptR Γ w lo lo') (hhi : OptR Γ w hi hi') (hmx : OptR Γ w mx mx') :
    Good Γ H w ((asNext (Instr.sliceAt t x' lo' hi' mx')).run P w) res := by
  unfold evSlice at h
  split at h
  · rename_i s hu
    split at h
    · rename_i hb hh
      split at h
      · rename_i l hl
        cases h
        rw [hx.stringE]
        cases mx' with
        | some => exact hmx.elim
        | none =>
          obtain ⟨h1, h2, h3⟩ := bounds_run (P := P) (b := false) (cap := s.size) hh hl hlo hhi (Nat.le_refl _) (Nat.le_refl _)
          refine good_same hR (.string _) (run_asNext ?_)
          simp only [Instr.sliceAt, Sem.run_bind, run_underlying hu, Result.andThen_ok, Instr.slice, Option.isSome_none, Bool.false_eq_true, if_false, h1, Sem.run_pure, ba_extract]
      · cases h
    · cases h
  · rename_i e a len cap hu
    split at h
    · rename_i i hi
      split at h
      · rename_i v hv
        cases h
        obtain ⟨v', h1, h2⟩ := evSliceOf_run hu hi hv hx hlo hhi hmx
        exact good_same hR h2 (run_asNext h1)
      · cases h
    · cases h
  · rename_i n e b off hu
    split at h
    · rename_i i hi
      split at h
      · rename_i hn
        split at h
        · rename_i hb hh
          split at h
          · rename_i l hl
            cases h
            obtain ⟨b1, o1, e1, hd, rfl⟩ := hx.ptrE
            cases e1
            cases mx' with
            | some => exact hmx.elim
            | none =>
              obtain ⟨h1, h2, h3⟩ := bounds_run (P := P) (b := false) (cap := n) hh hl hlo hhi (Nat.le_refl _) (Nat.le_refl _)
              refine good_same hR (v' := .slice (some (if n = l then Γ.at b off else (Γ.at b off).add (l * i.size))) (hb - l) (n - l)) ?_ (run_asNext ?_)
              · by_cases hnl : n = l
                · rw [if_pos hnl]; exact .slice hd (by omega) (by omega) (.inl ⟨by omega, rfl⟩)
                · rw [if_neg hnl, at_add]; exact .slice hd (by omega) (by omega) (.inr rfl)
              · simp only [Instr.sliceAt, Sem.run_bind, run_underlying hu, Result.andThen_ok, Instr.sureAddr, Sem.run_pure, h1, run_sizeOf' hi]
          · cases h
        · cases h
      · cases h
    · cases h
  · cases h

end Go.Iv
