/- Functions of Go's library whose answers are told: what the kit's contracts say of them, for the evaluator. -/
import Derived.Test.YtbkdijjliabfdaaDoorGvRow
import Derived.Shelf.Strconv.Itoa3
import Derived.Lib.AppendIntMem
import Derived.Shelf.Strings.SlTrimAscii
set_option linter.unusedSimpArgs false
set_option linter.unusedVariables false
namespace Go.Gv
open Go Go.Iv Go.RowKit
variable {P : Program}

theorem spec_itoa {f g : Nat} {nm : String} (hb : ∃ fn c, P.funcs[f]? = some fn ∧ fn.body = some c) (hn : P.globalNamed nm = some g)
    (hc : ∀ (n : Int) (w : World), -9223372036854775808 ≤ n → n ≤ 9223372036854775807 → Lib.TabIs P w nm .u64 Lib.pow10Tab →
      Calls P f #[.int .i64 n] w fun e w' => e = .returned (.string ⟨(Lib.itoa n).toArray⟩) ∧ ∃ k os, w' = Go.Sort.grow (w.drewN k) os) : Spec1 P 1 f g := by
  refine ⟨hb, fun {args I v} hv {Γ w args'} hR ha => ?_⟩
  unfold specV at hv
  split at hv
  · exact absurd ‹(1 : Nat) = 0› (by decide)
  · rename_i n _
    split at hv
    · rename_i hh
      cases hv
      obtain ⟨hin, hg, cs, et, fz, ex, sd, hI, hex, hlen, hat⟩ := hh
      have ha' : args' = #[.int .i64 n] := by
        obtain ⟨l⟩ := args'
        cases ha with | cons a b => cases a; cases b; rfl
      subst ha'
      obtain ⟨cs', lo, hi, hC⟩ := hR.obj g _ hI
      have hφ := (hR.glob g hg).2
      have hsz := hC.exact_ hex
      have htab : Lib.TabIs P w nm .u64 Lib.pow10Tab := by
        unfold Lib.TabIs World.var?
        rw [hn]
        simp only [Option.bind_some]
        have hbk := hC.block
        rw [hφ] at hbk
        simp only at hbk
        rw [hbk]
        simp only [Option.some.injEq]
        have hp : Lib.pow10Tab = pow10s := by decide
        rw [hp]
        apply Array.ext'
        apply List.ext_getElem?
        intro i
        rcases Nat.lt_or_ge i (pow10s.length) with hi | hi
        · have hv : (pow10s.map fun z => Value.int .u64 z)[i]? = some (.int .u64 pow10s[i]) := by rw [List.getElem?_map, List.getElem?_eq_getElem hi]; rfl
          obtain ⟨v', h1, h2⟩ := hC.cell i _ (hat i _ hv)
          rw [hφ] at h1
          simp only [Nat.zero_add] at h1
          cases h2
          rw [hv, ← h1]; simp
        · have h1 : cs'.size ≤ i := by rw [hsz.2, hlen]; simpa using hi
          rw [List.getElem?_eq_none (by simpa using h1), List.getElem?_eq_none (by simpa using hi)]
      simp only [in64, Bool.and_eq_true] at hin
      have h1 : -9223372036854775808 ≤ n := ile_true hin.1
      have h2 : n ≤ 9223372036854775807 := ile_true hin.2
      refine spec_below hR (v' := .string ⟨(Lib.itoa n).toArray⟩) (fun w' => .string _) ((hc n w h1 h2 htab).mono ?_)
      rintro e w' ⟨rfl, k, os, rfl⟩
      exact ⟨rfl, Go.Lib.below_grow _ w (Nat.le_refl _) k os⟩
    · cases hv
  · exact absurd ‹(1 : Nat) = 2› (by decide)
  · cases hv

theorem spec_trim {f g : Nat} (hb : ∃ fn c, P.funcs[f]? = some fn ∧ fn.body = some c)
    (hc : ∀ (s cutset : ByteArray) (w : World), cutset.size < 4294967281 → (∀ (j : Nat) b, cutset.data.toList[j]? = some b → b.toNat < 128) →
      Calls P f #[.string s, .string cutset] w fun e w' => e = .returned (.string ⟨(Lib.trimLeftS s.data.toList cutset.data.toList).toArray⟩) ∧ Below w.heap.size w w') : Spec1 P 2 f g := by
  refine ⟨hb, fun {args I v} hv {Γ w args'} hR ha => ?_⟩
  unfold specV at hv
  split at hv
  · exact absurd ‹(2 : Nat) = 0› (by decide)
  · exact absurd ‹(2 : Nat) = 1› (by decide)
  · rename_i s cs _
    cases ht : trimOK (bl cs) with
    | false => rw [ht] at hv; cases hv
    | true =>
      rw [ht] at hv
      cases hv
      have ha' : args' = #[.string s, .string cs] := by
        obtain ⟨l⟩ := args'
        cases ha with | cons a b =>
        cases a
        cases b with | cons a b => cases a; cases b; rfl
      subst ha'
      simp only [trimOK, Bool.and_eq_true, List.all_eq_true] at ht
      obtain ⟨⟨_, h2⟩, h3⟩ := ht
      have hsz : cs.size = (bl cs).length := by unfold bl; simp
      refine spec_below hR (v' := .string ⟨(Lib.trimLeftS s.data.toList cs.data.toList).toArray⟩) (fun w' => .string _) (hc s cs w ?_ ?_)
      · have := Nat.le_of_ble_eq_true h2; omega
      · intro j b hj
        exact Nat.le_of_ble_eq_true (h3 b (List.mem_of_getElem? hj))
  · cases hv
end Go.Gv
