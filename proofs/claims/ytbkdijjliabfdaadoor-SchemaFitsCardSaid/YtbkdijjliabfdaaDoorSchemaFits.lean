/- SchemaFits returns true for all arguments, and leaves its arguments as they were. -/
import Derived.Test.YtbkdijjliabfdaaDoorLaw
import Derived.Test.YtbkdijjliabfdaaDoorLaw1
import Derived.Test.YtbkdijjliabfdaaDoorGvRow
import Derived.Test.YtbkdijjliabfdaaDoorTie
import Derived.Test.YtbkdijjliabfdaaDoorCards
import Derived.ProofKit
import Derived.OpenShut
import Derived.LaidMore
import Derived.Lay
import Derived.SevenTiedAt
import Derived.Stop.Joined
import Derived.ChangeMaps5
set_option linter.unusedSimpArgs false
set_option linter.unusedVariables false
namespace Go.Proofs.YtbkdijjliabfdaaDoor.SchemaFits
open Go Go.Iv Go.Gv Go.ChangeShapes Go.WideShapes Go.ChangeAt Go.RowKit

theorem own : ownKnob Tryd.prog.godebug = none := by kernel_rfl
theorem mixed : Tryd.prog.follows .mixedOrders = true := by kernel_rfl
theorem noRt : noNG Tryd.prog = true := by kernel_rfl
def laidAll : List (String × DataW Unit) := [("math/bits.deBruijn32tab", Rows.laid_math_bits_deBruijn32tab), ("math/bits.deBruijn64tab", Rows.laid_math_bits_deBruijn64tab), ("internal/strconv.uint64pow10", Rows.laid_internal_strconv_uint64pow10), ("unicode/utf8.acceptRanges", Rows.laid_unicode_utf8_acceptRanges), ("strconv.ErrRange", Rows.laid_strconv_ErrRange), ("strconv.ErrSyntax", Rows.laid_strconv_ErrSyntax), ("unicode/utf8.first", Rows.laid_unicode_utf8_first)]
theorem noHandle : (laidAll.filter fun x => x.2.handleName?.isSome) = [] := by kernel_rfl
theorem gl_is : (gvals Tryd.prog 4 laidAll).filter (fun x => memN [6, 7, 5, 3, 2] x.1) = glOf tbL := by kernel_rfl
theorem u4 : Tryd.prog.underlying 4 = some .bool := by kernel_rfl
theorem u9 : Tryd.prog.underlying 9 = some .string := by kernel_rfl
theorem u3 : Tryd.prog.underlying 3 = some (.int .i64) := by kernel_rfl
theorem u8_back {z : Int} (h : (Lit.int .u8 z).wf = true) : [Value.int .u8 z] = [.int .u8 ((UInt8.ofNat z.toNat).toNat : Nat)] := by
  have := bounds_u8 h
  rw [UInt8.toNat_ofNat']
  have e : ((z.toNat % 2 ^ 8 : Nat) : Int) = z := by omega
  rw [e]

theorem walk (W : World) (hL : laidMetH Tryd.prog laidAll W) (a0 : ByteArray) (a1 : Int) :
    Calls Tryd.prog 4 #[.string a0, .int .i64 a1] W fun e w' => e = .returned (.bool true) ∧ Below W.heap.size W w' := by
  obtain ⟨l0, φ0, S0, T0⟩ := Fst.tables (sh := shT) (fuel := 4) (L := tbL) noHandle hL (fun _ hx => (List.mem_filter.1 (gl_is.symm ▸ hx)).1) (by kernel_rfl) rfl
  exact law_gvS specs_ok noRt mixed (it := schemaFits_it) (n := 30000) (hal := by kernel_rfl) (schemaFits_ok 30000) (x := (a0.data.toList, (a1, ()))) (y := (true, ())) (fits_spec a0.data.toList a1) (fun hg => by cases hg; rfl) S0 T0 (vs := [.string a0, .int .i64 a1]) ⟨.string a0, [.int .i64 a1], rfl, ⟨by unfold Enc; rfl, (fun h => by cases h), fun _ => rfl⟩, ⟨.int .i64 a1, [], rfl, ⟨by unfold Enc; rfl, (fun h => by cases h), fun _ => rfl⟩, rfl⟩⟩ (.cons (.string _) (.cons (.int _ _) .nil))

set_option maxRecDepth 100000 in
theorem lifted (os : Os) (started : os.Started) (H : Type) (enc : TypeId × Value → H) :
    ReturnsInHanded {} Tryd.checked os 4 .any (fun w args => (Rows.schemaFitsSpec.pre enc Tryd.prog Tryd.f4 Rows.schemaFitsRow.domain false w args ∧ laidMetH Tryd.prog laidAll w) ∧ sizedMet enc Tryd.prog Tryd.f4 (OpenSpec.ofChange Rows.schemaFitsSpec) false w args)
      (Rows.schemaFitsSpec.post enc Tryd.prog Tryd.f4 false true false false) := by
  refine returnsInHanded_of_change_and (C := Tryd.checked) (X := fun w _ => laidMetH Tryd.prog laidAll w) (fun _ _ _ hh h => h.of_heap hh) own started (by kernel_rfl) Tryd.func4
    (ChangeSpec.witness_shaped (enc := enc) (C := Tryd.checked) (os := os) (X := fun w _ => laidMetH Tryd.prog laidAll w) false (World.laidAll Tryd.prog os laidAll) #[.string ⟨#[]⟩, .int .i64 0] 8 (World.laidAll_os _ _ _)
      (World.shaped_of_ZipB (by kernel_rfl) (by kernel_rfl)) (by kernel_rfl) (by kernel_rfl) (by kernel_rfl)
      (by rw [MakeChecks.laidMetH_plain _ _ _ (by kernel_rfl)]; exact laidMet_laidAll _ (by kernel_rfl) (by kernel_rfl))) ?_
  intro W base args ds gs before hval0 hW hc _ hL _
  have hval : ∀ (j : Nat) t v, Tryd.f4.params[j]? = some t → args[j]? = some v → Value.okWide Tryd.prog W .any base t v := hval0
  have hW' := hW
  obtain ⟨p, q, hA0, hV, rfl, _, _⟩ := hW
  have hA : DataW.TrodAll enc Tryd.prog W 0 (fun _ => true) true Tryd.f4.params.toList args.toList ds p := hA0
  rw [Tryd.params4] at hA hval
  obtain ⟨v0, v1, d0, d1, p0, p1, rfl, rfl, rfl, h0, h1⟩ := trodAll_two hA
  obtain ⟨rfl, rfl⟩ := trodVars_none hV
  obtain ⟨x0, rfl, rfl, rfl, w0⟩ := Go.ChangeMaps.open_string u9 (hval 0 9 v0 rfl rfl) h0
  obtain ⟨x1, rfl, rfl, rfl, w1⟩ := open_int u3 (hval 1 3 v1 rfl rfl) h1
  simp only [List.append_nil, List.nil_append] at hW'
  refine (walk W hL x0 x1).mono fun e W' ⟨he, hb⟩ => ?_
  subst he
  exact ⟨_, rfl, post_below (pa := [] ++ ([])) (pv := []) hW' (fun _ _ _ => trodAll_mk1 (shut_bool u4 _)) (fun sp hsp => by
    exact trodAll_mk2 (Go.ChangeMaps.shut_string u9 w0) (shut_int u3 w1)) (fun _ _ => rfl) (by simp) hb (ok_one (by kernel_rfl) rfl (okWide_bool_mk u4 _))⟩

theorem joined : joinedFacts Tryd.prog 4 Tryd.f4 Rows.schemaFitsSpec Rows.schemaFitsRow = true := by kernel_rfl

theorem holds : Rows.SchemaFitsSaid :=
  OpenClaim.holds_of_wide 4 Tryd.f4 rfl rfl rfl rfl rfl rfl rfl ⟨rfl, rfl, rfl, rfl, rfl⟩ rfl rfl rfl rfl rfl (by kernel_rfl) Tryd.func4 joined
    (of_decide_eq_true (by kernel_rfl)) (by unfold Func.isWrapper; first | (rw [if_pos (by decide +kernel)]; kernel_rfl) | (rw [if_neg (by decide +kernel)]; exact ⟨rfl, rfl⟩))
    (fun os started H enc _ => lifted os started H enc)

theorem card_holds : Rows.SchemaFitsCardSaid :=
  Claim7.holds_tied_plain_at .later [] [.data, .data, .data, .data, .sentinel, .sentinel, .pinned] true (true, "2657a087b26a3e9f47108904fb4e8e30d52c5d44216eceb6a1af4951bfa7e278") true holds (fun _ h => by cases h) (by kernel_rfl) (fun _ h => by cases h) schemaFits_row_tie rfl ⟨rfl, rfl⟩ (by kernel_rfl) rfl
    (fun f fn hf hfn => by
      obtain rfl : f = 4 := Option.some.inj ((show Tryd.prog.funcNamed "marginalia/marginalialaw19.SchemaFits" = some 4 by kernel_rfl).symm.trans hf) |>.symm
      obtain rfl : fn = Tryd.f4 := (Option.some.inj (Tryd.func4.symm.trans hfn)).symm
      exact ⟨by kernel_rfl, fun j t ht => by
        rw [Tryd.params4] at ht
        have hm : t ∈ [9, 3] := by simpa using Array.mem_of_getElem? ht
        have hall : ([9, 3].all fun u => !Tryd.prog.wantsStandIn u) = true := by kernel_rfl
        exact (show Tryd.prog.wantsStandIn t = false by simpa using List.all_eq_true.1 hall t hm)⟩)
    (by kernel_rfl)
#print axioms card_holds
end Go.Proofs.YtbkdijjliabfdaaDoor.SchemaFits
