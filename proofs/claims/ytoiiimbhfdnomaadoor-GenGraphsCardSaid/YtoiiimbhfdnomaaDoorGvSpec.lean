/- Functions of Go's library whose answers are told: what the kit's contracts say of them, for the evaluator. -/
import Derived.Test.YtoiiimbhfdnomaaDoorGvRow
import Derived.Shelf.Strconv.Itoa3
import Derived.Lib.AppendIntMem
import Derived.Shelf.Strings.SlTrimAscii
import Derived.Shelf.Unicode.ValidAny
set_option linter.unusedSimpArgs false
set_option linter.unusedVariables false
namespace Go.Gv
open Go Go.Iv Go.RowKit
variable {P : Program}
theorem spec_itoa {f g : Nat} {nm : String} (hb : ∃ fn c, P.funcs[f]? = some fn ∧ fn.body = some c) (hn : P.globalNamed nm = some g)
    (hc : ∀ (n : Int) (w : World), -9223372036854775808 ≤ n → n ≤ 9223372036854775807 → Lib.TabIs P w nm .u64 Lib.pow10Tab →
      Calls P f #[.int .i64 n] w fun e w' => e = .returned (.string ⟨(Lib.itoa n).toArray⟩) ∧ ∃ k os, w' = Go.Sort.grow (w.drewN k) os) : Spec1 P 1 f g := by
  refine ⟨hb, fun {args I v} hv {Γ w args'} hR ha => ?_⟩
  unfold specV at hv
  split at hv
  · exact absurd ‹(1 : Nat) = 0› (by decide)
  · rename_i n _
    split at hv
    · rename_i hh
      cases hv
      obtain ⟨hin, hg, cs, et, fz, ex, sd, hI, hex, hlen, hat⟩ := hh
      have ha' : args' = #[.int .i64 n] := by
        obtain ⟨l⟩ := args'
        cases ha with | cons a b => cases a; cases b; rfl
      subst ha'
      obtain ⟨cs', lo, hi, hC⟩ := hR.obj g _ hI
      have hφ := (hR.glob g hg).2
      have hsz := hC.exact_ hex
      have htab : Lib.TabIs P w nm .u64 Lib.pow10Tab := by
        unfold Lib.TabIs World.var?
        rw [hn]
        simp only [Option.bind_some]
        have hbk := hC.block
        rw [hφ] at hbk
        simp only at hbk
        rw [hbk]
        simp only [Option.some.injEq]
        have hp : Lib.pow10Tab = pow10s := by decide
        rw [hp]
        apply Array.ext'
        apply List.ext_getElem?
        intro i
        rcases Nat.lt_or_ge i (pow10s.length) with hi | hi
        · have hv : (pow10s.map fun z => Value.int .u64 z)[i]? = some (.int .u64 pow10s[i]) := by rw [List.getElem?_map, List.getElem?_eq_getElem hi]; rfl
          obtain ⟨v', h1, h2⟩ := hC.cell i _ (hat i _ hv)
          rw [hφ] at h1
          simp only [Nat.zero_add] at h1
          cases h2
          rw [hv, ← h1]; simp
        · have h1 : cs'.size ≤ i := by rw [hsz.2, hlen]; simpa using hi
          rw [List.getElem?_eq_none (by simpa using h1), List.getElem?_eq_none (by simpa using hi)]
      simp only [in64, Bool.and_eq_true] at hin
      have h1 : -9223372036854775808 ≤ n := ile_true hin.1
      have h2 : n ≤ 9223372036854775807 := ile_true hin.2
      refine spec_below hR (v' := .string ⟨(Lib.itoa n).toArray⟩) (fun w' => .string _) ((hc n w h1 h2 htab).mono ?_)
      rintro e w' ⟨rfl, k, os, rfl⟩
      exact ⟨rfl, Go.Lib.below_grow _ w (Nat.le_refl _) k os⟩
    · cases hv
  · exact absurd ‹(1 : Nat) = 2› (by decide)
  · exact absurd ‹(1 : Nat) = 3› (by decide)
  · cases hv
theorem spec_trim {f g : Nat} (hb : ∃ fn c, P.funcs[f]? = some fn ∧ fn.body = some c)
    (hc : ∀ (s cutset : ByteArray) (w : World), cutset.size < 4294967281 → (∀ (j : Nat) b, cutset.data.toList[j]? = some b → b.toNat < 128) →
      Calls P f #[.string s, .string cutset] w fun e w' => e = .returned (.string ⟨(Lib.trimLeftS s.data.toList cutset.data.toList).toArray⟩) ∧ Below w.heap.size w w') : Spec1 P 2 f g := by
  refine ⟨hb, fun {args I v} hv {Γ w args'} hR ha => ?_⟩
  unfold specV at hv
  split at hv
  · exact absurd ‹(2 : Nat) = 0› (by decide)
  · exact absurd ‹(2 : Nat) = 1› (by decide)
  · rename_i s cs _
    cases ht : trimOK (bl cs) with
    | false => rw [ht] at hv; cases hv
    | true =>
      rw [ht] at hv
      cases hv
      have ha' : args' = #[.string s, .string cs] := by
        obtain ⟨l⟩ := args'
        cases ha with | cons a b =>
        cases a
        cases b with | cons a b => cases a; cases b; rfl
      subst ha'
      simp only [trimOK, Bool.and_eq_true, List.all_eq_true] at ht
      obtain ⟨⟨_, h2⟩, h3⟩ := ht
      have hsz : cs.size = (bl cs).length := by unfold bl; simp
      refine spec_below hR (v' := .string ⟨(Lib.trimLeftS s.data.toList cs.data.toList).toArray⟩) (fun w' => .string _) (hc s cs w ?_ ?_)
      · have := Nat.le_of_ble_eq_true h2; omega
      · intro j b hj
        exact Nat.le_of_ble_eq_true (h3 b (List.mem_of_getElem? hj))
  · exact absurd ‹(2 : Nat) = 3› (by decide)
  · cases hv
theorem first_at : ∀ c : Fin 256, (first8[c.val]?).map (·.toNat) = some (Lib.firstT c.val) := by decide +kernel
theorem acc_at : ∀ i : Fin 16, (acc8[i.val]?).map (fun p => (p.1.toNat, p.2.toNat)) = some (Lib.accLo i.val, Lib.accHi i.val) := by decide +kernel
theorem tab_cell {g : Nat} {I : IH} {Γ : Ga} {w : World} {zs : List Value} (hR : Rh Γ I w) (hg : g < glN) (ht : TabV I g zs) {i : Nat} {k : IntKind} {n : Int} (hz : zs[i]? = some (.int k n)) : w.cell? ⟨g, i, none⟩ = some (.int k n) := by
  obtain ⟨cs, et, fz, ex, sd, hI, hex, hlen, hat⟩ := ht
  obtain ⟨cs', lo, hi, hC⟩ := hR.obj g _ hI
  have hφ := (hR.glob g hg).2
  obtain ⟨v', h1, h2⟩ := hC.cell i _ (hat i _ hz)
  have hb := hC.block
  rw [hφ] at h1 hb
  simp only [Nat.zero_add] at h1 hb
  cases h2
  unfold World.cell?
  simp only [hb]
  simpa using h1
theorem spec_valid {f g1 g2 : Nat} (h2 : g2 < 1000) (hb : ∃ fn c, P.funcs[f]? = some fn ∧ fn.body = some c)
    (hc : ∀ (s : ByteArray) (w : World), s.size ≤ 9223372036854775807 → Lib.Utf8Tabs g1 g2 w → Calls P f #[.string s] w fun e w' => e = .returned (.bool (Lib.validD s.data.toList)) ∧ Below w.heap.size w w') : Spec1 P 3 f (g1 * 1000 + g2) := by
  refine ⟨hb, fun {args I v} hv {Γ w args'} hR ha => ?_⟩
  have e1 : (g1 * 1000 + g2) / 1000 = g1 := by omega
  have e2 : (g1 * 1000 + g2) % 1000 = g2 := by omega
  unfold specV at hv
  split at hv
  · exact absurd ‹(3 : Nat) = 0› (by decide)
  · exact absurd ‹(3 : Nat) = 1› (by decide)
  · exact absurd ‹(3 : Nat) = 2› (by decide)
  · rename_i s _
    split at hv
    · rename_i hh
      cases hv
      rw [e1, e2] at hh
      obtain ⟨hlen, ⟨hg1, hg2⟩, t1, t2⟩ := hh
      have ha' : args' = #[.string s] := by
        obtain ⟨l⟩ := args'
        cases ha with | cons a b => cases a; cases b; rfl
      subst ha'
      have htab : Lib.Utf8Tabs g1 g2 w := by
        refine ⟨fun c hc => ?_, fun i hi => ?_⟩
        · have h3 := first_at ⟨c, hc⟩
          rw [Option.map_eq_some_iff] at h3
          obtain ⟨z, hz, hn⟩ := h3
          have : (first8.map u8V)[c]? = some (.int .u8 (Lib.firstT c)) := by
            rw [List.getElem?_map, hz, ← hn]; rfl
          exact tab_cell hR hg1 t1 this
        · have h3 := acc_at ⟨i, hi⟩
          rw [Option.map_eq_some_iff] at h3
          obtain ⟨p, hp, hn⟩ := h3
          simp only [Prod.mk.injEq] at hn
          have hf : ∀ (l : List (UInt8 × UInt8)) (i : Nat) (p : UInt8 × UInt8), l[i]? = some p → (l.flatMap fun p => [u8V p.1, u8V p.2])[2 * i]? = some (u8V p.1) ∧ (l.flatMap fun p => [u8V p.1, u8V p.2])[2 * i + 1]? = some (u8V p.2) := by
            intro l
            induction l with
            | nil => intro i p h; simp at h
            | cons a r ih =>
              intro i p h
              cases i with
              | zero => simp at h; subst h; exact ⟨by simp, by simp⟩
              | succ i =>
                obtain ⟨q1, q2⟩ := ih i p (by simpa using h)
                rw [show 2 * (i + 1) = 2 * i + 2 by omega, show 2 * i + 2 + 1 = 2 * i + 1 + 2 by omega]
                exact ⟨by simpa using q1, by simpa using q2⟩
          obtain ⟨q1, q2⟩ := hf acc8 i p hp
          unfold u8V at q1 q2
          rw [hn.1] at q1
          rw [hn.2] at q2
          exact ⟨tab_cell hR hg2 t2 q1, tab_cell hR hg2 t2 q2⟩
      have hsz : s.size ≤ 9223372036854775807 := by
        have := Nat.le_of_ble_eq_true hlen
        unfold bl at this
        simpa using this
      exact spec_below hR (v' := .bool (Lib.validD s.data.toList)) (fun w' => .bool _) (hc s w hsz htab)
    · cases hv
  · cases hv
end Go.Gv
