/- GenLots returns true for every seed and every list of numbers, and leaves its arguments as they were. -/
import Derived.Test.YtoiiimbhfdnomaaDoorLots
import Derived.Test.YtoiiimbhfdnomaaDoorGvRow
import Derived.Test.YtoiiimbhfdnomaaDoorTie
import Derived.Test.YtoiiimbhfdnomaaDoorCards
import Derived.ProofKit
import Derived.OpenShut
import Derived.LaidMore
import Derived.Lay
import Derived.SevenTiedAt
import Derived.Stop.Joined
namespace Go.Proofs.YtoiiimbhfdnomaaDoor.GenLots
open Go Go.Iv Go.Gv Go.ChangeShapes Go.WideShapes Go.ChangeAt Go.RowKit

theorem own : ownKnob Tryd.prog.godebug = none := by kernel_rfl
theorem mixed : Tryd.prog.follows .mixedOrders = true := by kernel_rfl
theorem noRt : noNG Tryd.prog = true := by kernel_rfl
def laidAll : List (String × DataW Unit) := [("math/bits.deBruijn32tab", Rows.laid_math_bits_deBruijn32tab), ("math/bits.deBruijn64tab", Rows.laid_math_bits_deBruijn64tab), ("internal/strconv.uint64pow10", Rows.laid_internal_strconv_uint64pow10)]
theorem u3 : Tryd.prog.underlying 3 = some (.int .i64) := by kernel_rfl
theorem u4 : Tryd.prog.underlying 4 = some .bool := by kernel_rfl
theorem u22 : Tryd.prog.underlying 22 = some (.slice 3) := by kernel_rfl
theorem c3 : Tryd.prog.cellsOf 3 = 1 := by kernel_rfl

theorem walk {H : Type} {enc : TypeId × Value → H} (W : World) (a0 : Int) (v1 : Value) {d1 : DataW H} {p1 : List MemPlace} (hval : Value.okWide Tryd.prog W .any 0 22 v1)
    (h : DataW.Trod enc Tryd.prog W 0 (fun _ => true) true 22 v1 d1 p1) : Calls Tryd.prog 3 #[.int .i64 a0, v1] W fun e w' => e = .returned (.bool true) ∧ Below W.heap.size W w' := by
  obtain ⟨xs, l, φ, m, Pu, v', r1, r2, r3, r4, r5, r6, _⟩ := ints_start (s := .int .i64) rfl u22 u3 c3 (slice_cells u22 hval) hval h
  refine law_gv (it := lots_it) (n := 300) noRt mixed (lots_ok 300) (x := (a0, (xs, ()))) (y := (true, ())) (lots_spec xs a0) (fun hg => ?_) r1 r2 r3 (vs := [.int .i64 a0, v']) ?_ ?_
  · cases hg; rfl
  · refine ⟨.int .i64 a0, [v'], rfl, ⟨?_, (fun h => by cases h), fun _ => rfl⟩, v', [], rfl, ⟨?_, (fun h => by cases h), fun _ => r5⟩, rfl⟩
    · show Enc Pu _ (.int .i64) a0 [.int .i64 a0]
      unfold Enc; rfl
    · rw [r5]; exact r4
  · exact .cons (.int _ _) (.cons r6 .nil)

set_option maxRecDepth 100000 in
theorem lifted (os : Os) (started : os.Started) (H : Type) (enc : TypeId × Value → H) :
    ReturnsInHanded {} Tryd.checked os 3 .any (fun w args => (Rows.genLotsSpec.pre enc Tryd.prog Tryd.f3 Rows.genLotsRow.domain false w args ∧ laidMetH Tryd.prog laidAll w) ∧ sizedMet enc Tryd.prog Tryd.f3 (OpenSpec.ofChange Rows.genLotsSpec) false w args)
      (Rows.genLotsSpec.post enc Tryd.prog Tryd.f3 false true false false) := by
  refine returnsInHanded_of_change_and (C := Tryd.checked) (X := fun w _ => laidMetH Tryd.prog laidAll w) (fun _ _ _ hh h => h.of_heap hh) own started (by kernel_rfl) Tryd.func3
    (ChangeSpec.witness_shaped (enc := enc) (C := Tryd.checked) (os := os) (X := fun w _ => laidMetH Tryd.prog laidAll w) false (World.laidAll Tryd.prog os laidAll) #[.int .i64 0, .slice none 0 0] 8 (World.laidAll_os _ _ _)
      (World.shaped_of_ZipB (by kernel_rfl) (by kernel_rfl)) (by kernel_rfl) (by kernel_rfl) (by kernel_rfl)
      (by rw [MakeChecks.laidMetH_plain _ _ _ (by kernel_rfl)]; exact laidMet_laidAll _ (by kernel_rfl) (by kernel_rfl))) ?_
  intro W base args ds gs before hval0 hW hc _ hL _
  have hval : ∀ (j : Nat) t v, Tryd.f3.params[j]? = some t → args[j]? = some v → Value.okWide Tryd.prog W .any base t v := hval0
  have hW' := hW
  obtain ⟨p, q, hA0, hV, rfl, _, _⟩ := hW
  have hA : DataW.TrodAll enc Tryd.prog W 0 (fun _ => true) true Tryd.f3.params.toList args.toList ds p := hA0
  rw [Tryd.params3] at hA hval
  obtain ⟨v0, v1, d0, d1, p0, p1, rfl, rfl, rfl, h0, h1⟩ := trodAll_two hA
  obtain ⟨rfl, rfl⟩ := trodVars_none hV
  obtain ⟨x, rfl, rfl, rfl, wx⟩ := open_int u3 (hval 0 3 v0 rfl rfl) h0
  simp only [List.append_nil, List.nil_append] at hW'
  have hv1 : Value.okWide Tryd.prog W .any 0 22 v1 := hval 1 22 v1 rfl rfl
  refine (walk W x v1 hv1 h1).mono fun e W' ⟨he, hb⟩ => ?_
  subst he
  exact ⟨_, rfl, post_below (pa := p1) (pv := []) hW' (fun _ _ _ => trodAll_mk1 (shut_bool u4 _)) (fun sp hsp => trodAll_mk2 (shut_int u3 wx) (ints_keep u22 u3 c3 h1 hb sp hsp)) (fun _ _ => rfl) (by simp) hb (ok_one (by kernel_rfl) rfl (okWide_bool_mk u4 _))⟩

theorem joined : joinedFacts Tryd.prog 3 Tryd.f3 Rows.genLotsSpec Rows.genLotsRow = true := by kernel_rfl

theorem holds : Rows.GenLotsSaid :=
  OpenClaim.holds_of_wide 3 Tryd.f3 rfl rfl rfl rfl rfl rfl rfl ⟨rfl, rfl, rfl, rfl, rfl⟩ rfl rfl rfl rfl rfl (by kernel_rfl) Tryd.func3 joined
    (of_decide_eq_true (by kernel_rfl)) (by unfold Func.isWrapper; first | (rw [if_pos (by decide +kernel)]; kernel_rfl) | (rw [if_neg (by decide +kernel)]; exact ⟨rfl, rfl⟩))
    (fun os started H enc _ => lifted os started H enc)

theorem card_holds : Rows.GenLotsCardSaid :=
  Claim7.holds_tied_plain_at .later [] [.data, .data, .data] true (true, "c65c301fb9c4900a74706b8e6468592f366ffa4999e19ded0b72aa63604e2411") false holds (fun _ h => by cases h) (by kernel_rfl) (fun _ h => by cases h) genLots_row_tie rfl ⟨rfl, rfl⟩ (by kernel_rfl) rfl
    (fun f fn hf hfn => by
      obtain rfl : f = 3 := Option.some.inj ((show Tryd.prog.funcNamed "marginalia/marginalialaw28.GenLots" = some 3 by kernel_rfl).symm.trans hf) |>.symm
      obtain rfl : fn = Tryd.f3 := (Option.some.inj (Tryd.func3.symm.trans hfn)).symm
      exact ⟨by kernel_rfl, fun j t ht => by
        rw [Tryd.params3] at ht
        have hm : t ∈ [3, 22] := by simpa using Array.mem_of_getElem? ht
        have hall : ([3, 22].all fun u => !Tryd.prog.wantsStandIn u) = true := by kernel_rfl
        exact (show Tryd.prog.wantsStandIn t = false by simpa using List.all_eq_true.1 hall t hm)⟩)
    (by kernel_rfl)
#print axioms card_holds
end Go.Proofs.YtoiiimbhfdnomaaDoor.GenLots
