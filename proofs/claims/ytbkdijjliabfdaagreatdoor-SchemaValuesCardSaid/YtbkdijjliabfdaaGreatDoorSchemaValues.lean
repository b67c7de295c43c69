/- SchemaValues returns true for all arguments, and leaves its arguments as they were. -/
import Derived.Test.YtbkdijjliabfdaaGreatDoorLaw1
import Derived.Test.YtbkdijjliabfdaaGreatDoorGvRow
import Derived.Test.YtbkdijjliabfdaaGreatDoorTie
import Derived.Test.YtbkdijjliabfdaaGreatDoorCards
import Derived.ProofKit
import Derived.OpenShut
import Derived.LaidMore
import Derived.Lay
import Derived.SevenTiedAt
import Derived.Stop.Joined
import Derived.ChangeMaps5
set_option linter.unusedSimpArgs false
set_option linter.unusedVariables false
namespace Go.Proofs.YtbkdijjliabfdaaGreatDoor.SchemaValues
open Go Go.Iv Go.Gv Go.ChangeShapes Go.WideShapes Go.ChangeAt Go.RowKit

theorem own : ownKnob Tryz.prog.godebug = none := by kernel_rfl
theorem mixed : Tryz.prog.follows .mixedOrders = true := by kernel_rfl
theorem noRt : noNG Tryz.prog = true := by kernel_rfl
def laidAll : List (String × DataW Unit) := [("math/bits.deBruijn32tab", Rows.laid_math_bits_deBruijn32tab), ("math/bits.deBruijn64tab", Rows.laid_math_bits_deBruijn64tab), ("internal/strconv.uint64pow10", Rows.laid_internal_strconv_uint64pow10), ("unicode/utf8.acceptRanges", Rows.laid_unicode_utf8_acceptRanges), ("strconv.ErrRange", Rows.laid_strconv_ErrRange), ("strconv.ErrSyntax", Rows.laid_strconv_ErrSyntax), ("unicode/utf8.first", Rows.laid_unicode_utf8_first)]
theorem noHandle : (laidAll.filter fun x => x.2.handleName?.isSome) = [] := by kernel_rfl
theorem gl_is : (gvals Tryz.prog 4 laidAll).filter (fun x => memN [6, 7, 5, 3, 2] x.1) = glOf tbL := by kernel_rfl
theorem u4 : Tryz.prog.underlying 4 = some .bool := by kernel_rfl
theorem u9 : Tryz.prog.underlying 9 = some .string := by kernel_rfl
theorem u8_back {z : Int} (h : (Lit.int .u8 z).wf = true) : [Value.int .u8 z] = [.int .u8 ((UInt8.ofNat z.toNat).toNat : Nat)] := by
  have := bounds_u8 h
  rw [UInt8.toNat_ofNat']
  have e : ((z.toNat % 2 ^ 8 : Nat) : Int) = z := by omega
  rw [e]

theorem walk (W : World) (hL : laidMetH Tryz.prog laidAll W) (a0 : ByteArray) (a1 : ByteArray) :
    Calls Tryz.prog 4 #[.string a0, .string a1] W fun e w' => e = .returned (.bool true) ∧ Below W.heap.size W w' := by
  obtain ⟨l0, φ0, S0, T0⟩ := Fst.tables (sh := shT) (fuel := 4) (L := tbL) noHandle hL (fun _ hx => (List.mem_filter.1 (gl_is.symm ▸ hx)).1) (by kernel_rfl) rfl
  exact law_gvS specs_ok noRt mixed (it := schemaValues_it) (n := 30000) (hal := by kernel_rfl) (schemaValues_ok 30000) (x := (a0.data.toList, (a1.data.toList, ()))) (y := (true, ())) (values_spec a0.data.toList a1.data.toList) (fun hg => by cases hg; rfl) S0 T0 (vs := [.string a0, .string a1]) ⟨.string a0, [.string a1], rfl, ⟨by unfold Enc; rfl, (fun h => by cases h), fun _ => rfl⟩, ⟨.string a1, [], rfl, ⟨by unfold Enc; rfl, (fun h => by cases h), fun _ => rfl⟩, rfl⟩⟩ (.cons (.string _) (.cons (.string _) .nil))

set_option maxRecDepth 100000 in
theorem lifted (os : Os) (started : os.Started) (H : Type) (enc : TypeId × Value → H) :
    ReturnsInHanded {} Tryz.checked os 4 .any (fun w args => (Rows.schemaValuesSpec.pre enc Tryz.prog Tryz.f4 Rows.schemaValuesRow.domain false w args ∧ laidMetH Tryz.prog laidAll w) ∧ sizedMet enc Tryz.prog Tryz.f4 (OpenSpec.ofChange Rows.schemaValuesSpec) false w args)
      (Rows.schemaValuesSpec.post enc Tryz.prog Tryz.f4 false true false false) := by
  refine returnsInHanded_of_change_and (C := Tryz.checked) (X := fun w _ => laidMetH Tryz.prog laidAll w) (fun _ _ _ hh h => h.of_heap hh) own started (by kernel_rfl) Tryz.func4
    (ChangeSpec.witness_shaped (enc := enc) (C := Tryz.checked) (os := os) (X := fun w _ => laidMetH Tryz.prog laidAll w) false (World.laidAll Tryz.prog os laidAll) #[.string ⟨#[]⟩, .string ⟨#[]⟩] 8 (World.laidAll_os _ _ _)
      (World.shaped_of_ZipB (by kernel_rfl) (by kernel_rfl)) (by kernel_rfl) (by kernel_rfl) (by kernel_rfl)
      (by rw [MakeChecks.laidMetH_plain _ _ _ (by kernel_rfl)]; exact laidMet_laidAll _ (by kernel_rfl) (by kernel_rfl))) ?_
  intro W base args ds gs before hval0 hW hc _ hL _
  have hval : ∀ (j : Nat) t v, Tryz.f4.params[j]? = some t → args[j]? = some v → Value.okWide Tryz.prog W .any base t v := hval0
  have hW' := hW
  obtain ⟨p, q, hA0, hV, rfl, _, _⟩ := hW
  have hA : DataW.TrodAll enc Tryz.prog W 0 (fun _ => true) true Tryz.f4.params.toList args.toList ds p := hA0
  rw [Tryz.params4] at hA hval
  obtain ⟨v0, v1, d0, d1, p0, p1, rfl, rfl, rfl, h0, h1⟩ := trodAll_two hA
  obtain ⟨rfl, rfl⟩ := trodVars_none hV
  obtain ⟨x0, rfl, rfl, rfl, w0⟩ := Go.ChangeMaps.open_string u9 (hval 0 9 v0 rfl rfl) h0
  obtain ⟨x1, rfl, rfl, rfl, w1⟩ := Go.ChangeMaps.open_string u9 (hval 1 9 v1 rfl rfl) h1
  simp only [List.append_nil, List.nil_append] at hW'
  refine (walk W hL x0 x1).mono fun e W' ⟨he, hb⟩ => ?_
  subst he
  exact ⟨_, rfl, post_below (pa := [] ++ ([])) (pv := []) hW' (fun _ _ _ => trodAll_mk1 (shut_bool u4 _)) (fun sp hsp => by
    exact trodAll_mk2 (Go.ChangeMaps.shut_string u9 w0) (Go.ChangeMaps.shut_string u9 w1)) (fun _ _ => rfl) (by simp) hb (ok_one (by kernel_rfl) rfl (okWide_bool_mk u4 _))⟩

theorem joined : joinedFacts Tryz.prog 4 Tryz.f4 Rows.schemaValuesSpec Rows.schemaValuesRow = true := by kernel_rfl

theorem holds : Rows.SchemaValuesSaid :=
  OpenClaim.holds_of_wide 4 Tryz.f4 rfl rfl rfl rfl rfl rfl rfl ⟨rfl, rfl, rfl, rfl, rfl⟩ rfl rfl rfl rfl rfl (by kernel_rfl) Tryz.func4 joined
    (of_decide_eq_true (by kernel_rfl)) (by unfold Func.isWrapper; first | (rw [if_pos (by decide +kernel)]; kernel_rfl) | (rw [if_neg (by decide +kernel)]; exact ⟨rfl, rfl⟩))
    (fun os started H enc _ => lifted os started H enc)

theorem card_holds : Rows.SchemaValuesCardSaid :=
  Claim7.holds_tied_plain_at .later [] [.data, .data, .data, .data, .sentinel, .sentinel, .pinned] true (true, "6f058d0487f73c9eb8ff42771bdc0e8de221253b07dcbc511d5a232d5f279ba6") true holds (fun _ h => by cases h) (by kernel_rfl) (fun _ h => by cases h) schemaValues_row_tie rfl ⟨rfl, rfl⟩ (by kernel_rfl) rfl
    (fun f fn hf hfn => by
      obtain rfl : f = 4 := Option.some.inj ((show Tryz.prog.funcNamed "marginalia/marginalialaw19.SchemaValues" = some 4 by kernel_rfl).symm.trans hf) |>.symm
      obtain rfl : fn = Tryz.f4 := (Option.some.inj (Tryz.func4.symm.trans hfn)).symm
      exact ⟨by kernel_rfl, fun j t ht => by
        rw [Tryz.params4] at ht
        have hm : t ∈ [9, 9] := by simpa using Array.mem_of_getElem? ht
        have hall : ([9, 9].all fun u => !Tryz.prog.wantsStandIn u) = true := by kernel_rfl
        exact (show Tryz.prog.wantsStandIn t = false by simpa using List.all_eq_true.1 hall t hm)⟩)
    (by kernel_rfl)
#print axioms card_holds
end Go.Proofs.YtbkdijjliabfdaaGreatDoor.SchemaValues
