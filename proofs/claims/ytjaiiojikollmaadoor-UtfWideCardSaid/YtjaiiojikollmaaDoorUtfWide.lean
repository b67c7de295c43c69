/- UtfWide returns true for all arguments, and leaves its arguments as they were. -/
import Derived.Test.YtjaiiojikollmaaDoorLaw
import Derived.Test.YtjaiiojikollmaaDoorGvRow
import Derived.Test.YtjaiiojikollmaaDoorTie
import Derived.Test.YtjaiiojikollmaaDoorCards
import Derived.ProofKit
import Derived.OpenShut
import Derived.LaidMore
import Derived.Lay
import Derived.SevenTiedAt
import Derived.Stop.Joined
import Derived.ChangeMaps5
set_option linter.unusedSimpArgs false
set_option linter.unusedVariables false
namespace Go.Proofs.YtjaiiojikollmaaDoor.UtfWide
open Go Go.Iv Go.Gv Go.ChangeShapes Go.WideShapes Go.ChangeAt Go.RowKit

theorem own : ownKnob Tryd.prog.godebug = none := by kernel_rfl
theorem mixed : Tryd.prog.follows .mixedOrders = true := by kernel_rfl
theorem noRt : noNG Tryd.prog = true := by kernel_rfl
def laidAll : List (String × DataW Unit) := [("unicode/utf8.acceptRanges", Rows.laid_unicode_utf8_acceptRanges), ("unicode/utf8.first", Rows.laid_unicode_utf8_first)]
theorem noHandle : (laidAll.filter fun x => x.2.handleName?.isSome) = [] := by kernel_rfl
theorem gl_is : (gvals Tryd.prog 4 laidAll).filter (fun x => memN [1, 0] x.1) = glOf tbL := by kernel_rfl
theorem u4 : Tryd.prog.underlying 4 = some .bool := by kernel_rfl
theorem u24 : Tryd.prog.underlying 24 = some (.slice 3) := by kernel_rfl
theorem u3 : Tryd.prog.underlying 3 = some (.int .i64) := by kernel_rfl
theorem c3 : Tryd.prog.cellsOf 3 = 1 := by kernel_rfl
theorem u8_back {z : Int} (h : (Lit.int .u8 z).wf = true) : [Value.int .u8 z] = [.int .u8 ((UInt8.ofNat z.toNat).toNat : Nat)] := by
  have := bounds_u8 h
  rw [UInt8.toNat_ofNat']
  have e : ((z.toNat % 2 ^ 8 : Nat) : Int) = z := by omega
  rw [e]

theorem walk {H : Type} {enc : TypeId × Value → H} (W : World) (hL : laidMetH Tryd.prog laidAll W) (v0 : Value) {d0 : DataW H} {p0 : List MemPlace} (k0 : Value.okWide Tryd.prog W .any 0 24 v0) (h0 : DataW.Trod enc Tryd.prog W 0 (fun _ => true) true 24 v0 d0 p0) (a1 : Bool) (a2 : Bool) :
    Calls Tryd.prog 4 #[v0, .bool a1, .bool a2] W fun e w' => e = .returned (.bool true) ∧ Below W.heap.size W w' := by
  obtain ⟨l0, φ0, S0, T0⟩ := Fst.tables (sh := shT) (fuel := 4) (L := tbL) noHandle hL (fun _ hx => (List.mem_filter.1 (gl_is.symm ▸ hx)).1) (by kernel_rfl) rfl
  obtain ⟨z0, l1, φ1, q0, S1, E1, n0, c0, r0, w0⟩ := S0.ints (s := .int .i64) rfl id (fun z _ => by intro Pu I; unfold Enc; rfl) (by decide) u24 u3 c3 (slice_cells u24 k0) k0 h0
  have T1 := E1.tabs T0
  rw [List.map_id] at n0
  exact law_gv (it := utfWide_it) (n := 6000) noRt mixed (utfWide_ok 6000) (x := (z0, (a1, (a2, ())))) (y := (true, ())) (utfWide_spec z0 a1 a2) (fun hg => by cases hg; rfl) S1 T1 (vs := [q0, .bool a1, .bool a2]) ⟨q0, [.bool a1, .bool a2], rfl, ⟨by rw [c0]; exact n0, (fun h => by cases h), fun _ => c0⟩, ⟨.bool a1, [.bool a2], rfl, ⟨by unfold Enc; rfl, (fun h => by cases h), fun _ => rfl⟩, ⟨.bool a2, [], rfl, ⟨by unfold Enc; rfl, (fun h => by cases h), fun _ => rfl⟩, rfl⟩⟩⟩ (.cons r0 (.cons (.bool _) (.cons (.bool _) .nil)))

set_option maxRecDepth 100000 in
theorem lifted (os : Os) (started : os.Started) (H : Type) (enc : TypeId × Value → H) :
    ReturnsInHanded {} Tryd.checked os 4 .any (fun w args => (Rows.utfWideSpec.pre enc Tryd.prog Tryd.f4 Rows.utfWideRow.domain false w args ∧ laidMetH Tryd.prog laidAll w) ∧ sizedMet enc Tryd.prog Tryd.f4 (OpenSpec.ofChange Rows.utfWideSpec) false w args)
      (Rows.utfWideSpec.post enc Tryd.prog Tryd.f4 false true false false) := by
  refine returnsInHanded_of_change_and (C := Tryd.checked) (X := fun w _ => laidMetH Tryd.prog laidAll w) (fun _ _ _ hh h => h.of_heap hh) own started (by kernel_rfl) Tryd.func4
    (ChangeSpec.witness_shaped (enc := enc) (C := Tryd.checked) (os := os) (X := fun w _ => laidMetH Tryd.prog laidAll w) false (World.laidAll Tryd.prog os laidAll) #[.slice none 0 0, .bool false, .bool false] 8 (World.laidAll_os _ _ _)
      (World.shaped_of_ZipB (by kernel_rfl) (by kernel_rfl)) (by kernel_rfl) (by kernel_rfl) (by kernel_rfl)
      (by rw [MakeChecks.laidMetH_plain _ _ _ (by kernel_rfl)]; exact laidMet_laidAll _ (by kernel_rfl) (by kernel_rfl))) ?_
  intro W base args ds gs before hval0 hW hc _ hL _
  have hval : ∀ (j : Nat) t v, Tryd.f4.params[j]? = some t → args[j]? = some v → Value.okWide Tryd.prog W .any base t v := hval0
  have hW' := hW
  obtain ⟨p, q, hA0, hV, rfl, _, _⟩ := hW
  have hA : DataW.TrodAll enc Tryd.prog W 0 (fun _ => true) true Tryd.f4.params.toList args.toList ds p := hA0
  rw [Tryd.params4] at hA hval
  obtain ⟨v0, v1, v2, d0, d1, d2, p0, p1, p2, rfl, rfl, rfl, h0, h1, h2⟩ := trodAll_three hA
  obtain ⟨rfl, rfl⟩ := trodVars_none hV
  have k0 : Value.okWide Tryd.prog W .any 0 24 v0 := hval 0 24 v0 rfl rfl
  obtain ⟨x1, rfl, rfl, rfl⟩ := open_bool u4 (hval 1 4 v1 rfl rfl) h1
  obtain ⟨x2, rfl, rfl, rfl⟩ := open_bool u4 (hval 2 4 v2 rfl rfl) h2
  simp only [List.append_nil, List.nil_append] at hW'
  refine (walk W hL v0 k0 h0 x1 x2).mono fun e W' ⟨he, hb⟩ => ?_
  subst he
  exact ⟨_, rfl, post_below (pa := p0 ++ ([] ++ ([]))) (pv := []) hW' (fun _ _ _ => trodAll_mk1 (shut_bool u4 _)) (fun sp hsp => by
    have hsp0 : ∀ x ∈ p0, sp x.block = true := fun x hx => hsp x (by simp [hx])
    exact trodAll_mk3 (ints_keep u24 u3 c3 h0 hb sp hsp0) (shut_bool u4 x1) (shut_bool u4 x2)) (fun _ _ => rfl) (by simp) hb (ok_one (by kernel_rfl) rfl (okWide_bool_mk u4 _))⟩

theorem joined : joinedFacts Tryd.prog 4 Tryd.f4 Rows.utfWideSpec Rows.utfWideRow = true := by kernel_rfl

theorem holds : Rows.UtfWideSaid :=
  OpenClaim.holds_of_wide 4 Tryd.f4 rfl rfl rfl rfl rfl rfl rfl ⟨rfl, rfl, rfl, rfl, rfl⟩ rfl rfl rfl rfl rfl (by kernel_rfl) Tryd.func4 joined
    (of_decide_eq_true (by kernel_rfl)) (by unfold Func.isWrapper; first | (rw [if_pos (by decide +kernel)]; kernel_rfl) | (rw [if_neg (by decide +kernel)]; exact ⟨rfl, rfl⟩))
    (fun os started H enc _ => lifted os started H enc)

theorem card_holds : Rows.UtfWideCardSaid :=
  Claim7.holds_tied_plain_at .later [] [.data, .pinned] true (true, "0c9780cbc520b66bbb8f6ca56c5180ff45fec871a831e5afd37c1503c81d530c") false holds (fun _ h => by cases h) (by kernel_rfl) (fun _ h => by cases h) utfWide_row_tie rfl ⟨rfl, rfl⟩ (by kernel_rfl) rfl
    (fun f fn hf hfn => by
      obtain rfl : f = 4 := Option.some.inj ((show Tryd.prog.funcNamed "marginalia/marginalialaw1.UtfWide" = some 4 by kernel_rfl).symm.trans hf) |>.symm
      obtain rfl : fn = Tryd.f4 := (Option.some.inj (Tryd.func4.symm.trans hfn)).symm
      exact ⟨by kernel_rfl, fun j t ht => by
        rw [Tryd.params4] at ht
        have hm : t ∈ [24, 4, 4] := by simpa using Array.mem_of_getElem? ht
        have hall : ([24, 4, 4].all fun u => !Tryd.prog.wantsStandIn u) = true := by kernel_rfl
        exact (show Tryd.prog.wantsStandIn t = false by simpa using List.all_eq_true.1 hall t hm)⟩)
    (by kernel_rfl)
#print axioms card_holds
end Go.Proofs.YtjaiiojikollmaaDoor.UtfWide
