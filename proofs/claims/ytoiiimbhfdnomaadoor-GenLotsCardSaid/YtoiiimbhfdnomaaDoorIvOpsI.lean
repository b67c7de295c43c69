/- The operations, one by one (the ninth part): the builtins, deferring, and all that call nothing. -/
import Derived.Test.YtoiiimbhfdnomaaDoorIvOpsH
namespace Go.Iv
open Go

variable {P : Program} {Γ : Ga} {H : IH} {w : World}

theorem VRs.arr1 {x : Value} {args' : Array Value} (h : VRs Γ w [x] args'.toList) : ∃ x', args' = #[x'] ∧ VR Γ w x x' := by
  obtain ⟨l⟩ := args'
  cases h with
  | cons hx t => cases t; exact ⟨_, rfl, hx⟩

theorem VRs.arr2 {x y : Value} {args' : Array Value} (h : VRs Γ w [x, y] args'.toList) : ∃ x' y', args' = #[x', y'] ∧ VR Γ w x x' ∧ VR Γ w y y' := by
  obtain ⟨l⟩ := args'
  cases h with
  | cons hx t => cases t with
    | cons hy t => cases t; exact ⟨_, _, rfl, hx, hy⟩

theorem usd_some (ats : Array TypeId) (ty : TypeId) (a : Addr) (l c : Nat) : Builtin.unsafeSliceData_ ats ty #[.slice (some a) l c] =
    (if c ≠ 0 then pure (.pointer (some a)) else (do if (← viewAt a.block).isSome then pure (.pointer (some a)) else pure (.pointer (some ⟨← newObj (.view a (← elemOf ty)), 0, none⟩)))) := rfl

theorem evBuiltin_good (hR : Rh Γ H w) {b : Builtin} {ats : Array TypeId} {ty : TypeId} {consts : Array Bool} {args : List Value} {args' : Array Value} {res : OpRes}
    (h : evBuiltin P H b ats ty args = some res) (ha : VRs Γ w args args'.toList) : Good Γ H w ((builtin b ats ty consts args').run P w) res := by
  unfold evBuiltin at h
  split at h
  · obtain ⟨s', x', rfl, h1, h2⟩ := ha.arr2
    exact evAppend_good hR h h1 h2
  · obtain ⟨x', rfl, h1⟩ := ha.arr1
    split at h
    · rename_i t h0
      unfold valOf at h
      split at h
      · rename_i v hv
        cases h
        obtain ⟨h2, h3⟩ := evLen_good (ty := ty) hR h0 hv h1
        exact good_same hR (.of_free1 h3) (run_asNext h2)
      · cases h
    · cases h
  · rename_i base l c
    obtain ⟨x', rfl, h1⟩ := ha.arr1
    split at h
    · rename_i t h0
      split at h
      · rename_i e hu
        split at h
        · cases h
        · rename_i hc
          cases h
          have : ∃ a' l', x' = .slice a' l' c := by
            cases base with
            | none => obtain ⟨rfl, rfl, rfl⟩ := h1.snilE; exact ⟨_, _, rfl⟩
            | some a =>
              obtain ⟨b, o, rfl, hd, h2 | h2⟩ := h1.sliceE
              · obtain ⟨_, _, a', rfl, _⟩ := h2; exact ⟨_, _, rfl⟩
              · obtain ⟨s, c', a', hs, _⟩ := h2; omega
          obtain ⟨a', l', rfl⟩ := this
          exact good_same hR (.int _ _) (run_asNext (by simp [Builtin.cap_, h0, run_underlying hu, goInt]))
      · cases h
    · cases h
  · obtain ⟨d', x', rfl, h1, h2⟩ := ha.arr2
    exact evCopy_good hR h h1 h2
  · split at h
    · rename_i hf
      obtain ⟨l⟩ := args'
      obtain rfl := ha.eq_of_free1 hf
      exact evPlainRun_good hR h
    · cases h
  · split at h
    · rename_i hf
      obtain ⟨l⟩ := args'
      obtain rfl := ha.eq_of_free1 hf
      exact evPlainRun_good hR h
    · cases h
  · obtain ⟨x', rfl, h1⟩ := ha.arr1
    cases h
    obtain ⟨rfl, rfl, rfl⟩ := h1.snilE
    exact good_same hR .pnil (run_asNext rfl)
  · obtain ⟨x', rfl, h1⟩ := ha.arr1
    split at h
    · cases h
    · rename_i hl
      cases h
      obtain ⟨b, o, rfl, hd, h2 | h2⟩ := h1.sliceE
      · obtain ⟨_, hlc, a', rfl, h3⟩ := h2
        have hc0 : ¬ _ = 0 := fun e => hl (Nat.le_zero.1 (e ▸ hlc))
        obtain rfl := h3.resolve_left fun h => hc0 h.1
        exact good_same hR (.ptr hd) (run_asNext (by rw [usd_some, if_pos hc0]; rfl))
      · obtain ⟨s, c', a', rfl, rfl, hlc, h3⟩ := h2
        have hc0 : ¬ c' = 0 := by omega
        obtain ⟨rfl, _⟩ := h3.resolve_left fun h => hc0 h.1
        exact good_same hR (.ptr hd) (run_asNext (by rw [usd_some, if_pos hc0]; rfl))
  · obtain ⟨p', x', rfl, h1, h2⟩ := ha.arr2
    obtain rfl := h2.intE
    split at h
    · rename_i h0
      exact evUString_good hR h h1 (Option.isSome_iff_exists.1 h0)
    · cases h
  · cases h

theorem evDefer_good (_hR : Rh Γ H w) {f f' : Value} {args : List Value} {args' : Array Value} {res : OpRes} (h : evDefer H f args = some res) (hf : VR Γ w f f') (ha : VRs Γ w args args'.toList) :
    Good Γ H w ((do pure (.defer (← Deferred.ofValue f' args')) : Sem Next).run P w) res := by
  unfold evDefer at h
  split at h
  · rename_i fn first captured
    split at h
    · rename_i hp
      cases h
      obtain ⟨a', c', rfl, h1, h2⟩ := hf.funcE hp
      refine ⟨rfl, fn, _, c', _, a' ++ args', hp, rfl, by simp [Deferred.ofValue], h2, ?_⟩
      simpa using h1.append ha
    · cases h
  · cases h

theorem evPanic_good (hR : Rh Γ H w) {x x' : Value} {res : OpRes} (h : evPanic H x = some res) (hx : VR Γ w x x') : Good Γ H w ((asNext (Instr.panic x')).run P w) res := by
  unfold evPanic at h
  split at h
  · cases h
    obtain ⟨y, rfl, hy⟩ := hx.ifaceE
    exact ⟨_, w, Γ, by simp [Instr.panic], .iface _ hy, hR, .refl Γ H w⟩
  · cases h

/-- An operation that enters no function. -/
def plainOp (o : Oper) : Bool :=
  match o.op with
  | .call c => match c.callee with
    | .builtin _ => true
    | _ => false
  | _ => true

theorem evOp_good (hR : Rh Γ H w) {ρ : Operand → Value} {a : Act} (hv : ∀ x, VR Γ w (ρ x) (a.eval x)) {self : Self} {o : Oper} (hp : plainOp o = true) {res : OpRes} (h : evOp P self ρ H o = some res) :
    Good Γ H w ((execOp a.eval o).run P w) res := by
  unfold evOp at h
  split at h
  · rename_i ho; cases h; exact good_same hR (hv _) (by simp [execOp, ho])
  · rename_i ho; cases h; exact good_same hR (hv _) (by simp [execOp, ho])
  · rename_i ho; simp only [execOp, ho]; exact evPick_good hR h (hv _) (hv _) (hv _)
  · rename_i ho; simp only [execOp, ho]; exact evAlloc_good hR h
  · rename_i ho; simp only [execOp, ho]; exact evBox_good hR h (hv _)
  · rename_i ho; simp only [execOp, ho]; exact evBuild_good hR h (by simpa using PsR.map_opd hv _)
  · rename_i ho; simp only [execOp, ho]; exact evBuildSlice_good hR h (by simpa using PsR.map_opd hv _)
  · rename_i ho; simp only [execOp, ho]; exact evLoad_good hR h (hv _)
  · rename_i ho; simp only [execOp, ho]; exact evStore_good hR h (hv _) (hv _)
  · rename_i ho; exact evNilCheck_good hR ho h (hv _)
  · rename_i ho; simp only [execOp, ho]; exact evBin_good hR h (hv _) (hv _)
  · rename_i ho; simp only [execOp, ho]; exact evUn_good hR h (hv _)
  · rename_i ho; simp only [execOp, ho]; exact evConvert_good hR h (hv _)
  · rename_i ho; simp only [execOp, ho]; exact evMakeIface_good hR h (hv _)
  · rename_i fn first captured ho
    split at h
    · rename_i hf
      cases h
      refine good_same hR (v' := .func fn (first.map a.eval) (captured.map a.eval)) (.func hf ?_ ?_) (by simp [execOp, ho, Instr.makeFunc])
      · simpa using VRs.map_opd hv first.toList
      · simpa using VRs.map_opd hv captured.toList
    · cases h
  · rename_i r ho; simp only [execOp, ho]
    refine evMakeMap_good hR h (fun v hv' => ?_) (fun hn => ?_)
    · cases r with
      | none => cases hv'
      | some r => cases hv'; exact ⟨_, rfl, hv _⟩
    · cases r with
      | none => rfl
      | some r => cases hn
  · rename_i ho; simp only [execOp, ho]; exact evMakeSlice_good hR h (hv _) (hv _)
  · rename_i ho; simp only [execOp, ho]; exact evSlice_good hR h (hv _) (OptR.map_opd hv _) (OptR.map_opd hv _) (OptR.map_opd hv _)
  · rename_i ho; simp only [execOp, ho]; exact evFieldAddr_good hR h (hv _)
  · rename_i ho; simp only [execOp, ho]; exact evField_good hR h (hv _)
  · rename_i ho; simp only [execOp, ho]; exact evIndexAddr_good hR h (hv _) (hv _)
  · rename_i ho; simp only [execOp, ho]; exact evIndex_good hR h (hv _) (hv _)
  · rename_i ho; simp only [execOp, ho]; exact evLookup_good hR h (hv _) (hv _)
  · rename_i ho; simp only [execOp, ho]; exact evMapUpd_good hR h (hv _) (hv _) (hv _)
  · rename_i ho; simp only [execOp, ho]; exact evMapUpd_good hR h (hv _) (hv _) (hv _)
  · rename_i ho; simp only [execOp, ho]; exact evRange_good hR h (hv _)
  · rename_i ho; simp only [execOp, ho]; exact evNext_good hR h (hv _)
  · rename_i ho; simp only [execOp, ho]; exact evTypeAssert_good hR h (hv _)
  · rename_i ho; simp only [execOp, ho]; exact evExtract_good hR h (hv _)
  · rename_i c ho
    unfold evCallOp at h
    simp only at h
    split at h
    · rename_i b hc
      simp only [execOp, ho, resolve, hc, invoke, Sem.run_bind, Sem.run_pure, Result.andThen_ok]
      exact evBuiltin_good hR h (by simpa using VRs.map_opd hv c.args.toList)
    · rename_i hc; simp [plainOp, ho, hc] at hp
    · rename_i hc; simp [plainOp, ho, hc] at hp
  · rename_i c ho
    split at h
    · rename_i f hc
      have := evDefer_good (P := P) hR h (hv f) (args' := c.args.map a.eval) (by simpa using VRs.map_opd hv c.args.toList)
      simp only [execOp, ho]
      simpa [resolve, hc] using this
    · cases h
  · rename_i ho; simp only [execOp, ho]; exact evPanic_good hR h (hv _)
  · cases h

end Go.Iv
