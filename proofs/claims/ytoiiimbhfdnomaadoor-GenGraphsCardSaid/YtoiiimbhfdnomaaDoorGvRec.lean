/- Functions that call themselves: the calls within are an oracle's; then by depth. -/
import Derived.Test.YtoiiimbhfdnomaaDoorGvRow
set_option linter.unusedSimpArgs false
set_option linter.unusedVariables false
namespace Go.Gv
open Go Go.Iv
set_option linter.unusedVariables false
variable {P : Program} {hint : Hint} {sh : ShT}
theorem FnOK.zero {f : FuncId} {pa re : List (Bool × Sh)} {F : Nat → argsTy pa → Option (argsTy re)} (h : ∀ n x, F n x = none) (n : Nat) : FnOK P hint sh ⟨f, pa, re, 0, F⟩ n where
  run := fun {x y Γ Pu I vs} hF _ _ => by
    have h2 : F n x = some y := hF
    rw [h] at h2; cases h2
theorem FnOK.byDepth {f : FuncId} {pa re : List (Bool × Sh)} {D : Nat} (b : (Nat → argsTy pa → Option (argsTy re)) → Nat → argsTy pa → Option (argsTy re)) (Fd : Nat → Nat → argsTy pa → Option (argsTy re))
    (h0 : ∀ n x, Fd 0 n x = none) (hs : ∀ d n x, Fd (d + 1) n x = bif Nat.ble D n then b (Fd d) (n - D) x else none)
    (hb : ∀ Fr, (∀ m, FnOK P hint sh ⟨f, pa, re, 0, Fr⟩ m) → ∀ n, FnOK P hint sh ⟨f, pa, re, D, b Fr⟩ n) : ∀ d n, FnOK P hint sh ⟨f, pa, re, 0, Fd d⟩ n := by
  intro d
  induction d with
  | zero => exact fun n => FnOK.zero h0 n
  | succ d ih =>
    intro n
    refine ⟨fun {x y Γ Pu I vs} hF hS hD => ?_⟩
    have h2 : Fd (d + 1) n x = some y := hF
    rw [hs] at h2
    cases hle : Nat.ble D n with
    | false => rw [hle] at h2; cases h2
    | true =>
      rw [hle, cond_true] at h2
      have hD2 : n - D + D = n := Nat.sub_add_cancel (Nat.le_of_ble_eq_true hle)
      have := (hb (Fd d) ih (n - D)).run (x := x) (y := y) (Γ := Γ) h2 hS hD
      simp only [hD2] at this
      exact this
theorem FnOK.diag {f : FuncId} {pa re : List (Bool × Sh)} (Fd : Nat → Nat → argsTy pa → Option (argsTy re)) (h : ∀ d n, FnOK P hint sh ⟨f, pa, re, 0, Fd d⟩ n) (n : Nat) : FnOK P hint sh ⟨f, pa, re, 0, fun n x => Fd n n x⟩ n :=
  ⟨fun {x y Γ Pu I vs} hF hS hD => (h n n).run (x := x) (y := y) (Γ := Γ) hF hS hD⟩
end Go.Gv
