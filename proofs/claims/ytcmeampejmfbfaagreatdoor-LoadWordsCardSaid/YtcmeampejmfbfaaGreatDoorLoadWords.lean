/- LoadWords returns true for every integer, and leaves its argument as it was. -/
import Derived.Test.YtcmeampejmfbfaaGreatDoorLoadWordsR0
import Derived.Test.YtcmeampejmfbfaaGreatDoorLoadWordsR1
import Derived.Test.YtcmeampejmfbfaaGreatDoorLoadWordsR2
import Derived.Test.YtcmeampejmfbfaaGreatDoorLoadWordsR3
import Derived.Test.YtcmeampejmfbfaaGreatDoorLoadWordsJ0
import Derived.Test.YtcmeampejmfbfaaGreatDoorLoadWordsJ1
import Derived.Test.YtcmeampejmfbfaaGreatDoorLoadWordsJ2
import Derived.Test.YtcmeampejmfbfaaGreatDoorAl
import Derived.Test.YtcmeampejmfbfaaGreatDoorTie
import Derived.Test.YtcmeampejmfbfaaGreatDoorCards
import Derived.ProofKit
import Derived.OpenShut
import Derived.LaidMore
import Derived.Lay
import Derived.SevenTiedAt
import Derived.Stop.Joined
namespace Go.Proofs.YtcmeampejmfbfaaGreatDoor.LoadWords
open Go Go.Iv Go.ChangeShapes Go.WideShapes Go.ChangeAt Go.RowKit

theorem own : ownKnob Tryz.prog.godebug = none := by kernel_rfl

theorem runs (a0 : Int) (E : Nat → TypeId) : endsTrue ((evF Tryz.prog hint (trueSpec 4) 300).call 3 [.int .i64 a0] (startH (mkG gl E))) = true := by
  cases a0 with
  | negSucc k => exact low E k
  | ofNat k =>
    rcases Nat.lt_or_ge k 16 with h | h
    · have hk : k = 0 ∨ k = 1 ∨ k = 2 ∨ k = 3 ∨ k = 4 ∨ k = 5 ∨ k = 6 ∨ k = 7 ∨ k = 8 ∨ k = 9 ∨ k = 10 ∨ k = 11 ∨ k = 12 ∨ k = 13 ∨ k = 14 ∨ k = 15 := by omega
      rcases hk with rfl | rfl | rfl | rfl | rfl | rfl | rfl | rfl | rfl | rfl | rfl | rfl | rfl | rfl | rfl | rfl
      · exact run0 E
      · exact run1 E
      · exact run2 E
      · exact run3 E
      · exact run4 E
      · exact run5 E
      · exact run6 E
      · exact run7 E
      · exact run8 E
      · exact run9 E
      · exact run10 E
      · exact run11 E
      · exact run12 E
      · exact run13 E
      · exact run14 E
      · exact run15 E
    · obtain ⟨j, rfl⟩ : ∃ j, k = j + 16 := ⟨k - 16, by omega⟩
      exact big E j

theorem walk (a0 : Int) (w : World) (hl : laidMetH Tryz.prog laidAll w) : Calls Tryz.prog 3 #[.int .i64 a0] w fun e w' => e = .returned (.bool true) ∧ Below w.heap.size w w' :=
  law_runs1 (hint := hint) (spec := trueSpec 4) (n := 300) (fuel := 4) (gl := gl) mixed noRt alive_ok noHandle hl (fun _ hx => (List.mem_filter.1 (gl_is.symm ▸ hx)).1) (runs a0)

set_option maxRecDepth 100000 in
theorem lifted (os : Os) (started : os.Started) (H : Type) (enc : TypeId × Value → H) :
    ReturnsInHanded {} Tryz.checked os 3 .any (fun w args => (Rows.loadWordsSpec.pre enc Tryz.prog Tryz.f3 Rows.loadWordsRow.domain false w args ∧ laidMetH Tryz.prog laidAll w) ∧ sizedMet enc Tryz.prog Tryz.f3 (OpenSpec.ofChange Rows.loadWordsSpec) false w args)
      (Rows.loadWordsSpec.post enc Tryz.prog Tryz.f3 false true false false) := by
  refine returnsInHanded_of_change_and (C := Tryz.checked) (X := fun w _ => laidMetH Tryz.prog laidAll w) (fun _ _ _ hh h => h.of_heap hh) own started (by kernel_rfl) Tryz.func3
    (ChangeSpec.witness_shaped (enc := enc) (C := Tryz.checked) (os := os) (X := fun w _ => laidMetH Tryz.prog laidAll w) false (World.laidAll Tryz.prog os laidAll) #[.int .i64 0] 8 (World.laidAll_os _ _ _)
      (World.shaped_of_ZipB (by kernel_rfl) (by kernel_rfl)) (by kernel_rfl) (by kernel_rfl) (by kernel_rfl)
      (by rw [MakeChecks.laidMetH_plain _ _ _ (by kernel_rfl)]; exact laidMet_laidAll _ (by kernel_rfl) (by kernel_rfl))) ?_
  intro W base args ds gs before hval0 hW hc _ hL _
  have hval : ∀ (j : Nat) t v, Tryz.f3.params[j]? = some t → args[j]? = some v → Value.okWide Tryz.prog W .any base t v := hval0
  have hW' := hW
  obtain ⟨p, q, hA0, hV, rfl, _, _⟩ := hW
  have hA : DataW.TrodAll enc Tryz.prog W 0 (fun _ => true) true Tryz.f3.params.toList args.toList ds p := hA0
  rw [Tryz.params3] at hA hval
  obtain ⟨v0, d0, rfl, rfl, h0⟩ := trodAll_one hA
  obtain ⟨rfl, rfl⟩ := trodVars_none hV
  obtain ⟨x, rfl, rfl, rfl, wx⟩ := open_int Tryz.underlying3 (hval 0 3 v0 rfl rfl) h0
  simp only [List.append_nil] at hW'
  refine (walk x W hL).mono fun e W' ⟨he, hb⟩ => ?_
  subst he
  exact ⟨_, rfl, post_below (pa := []) (pv := []) hW' (fun _ _ _ => trodAll_mk1 (shut_bool Tryz.underlying4 _)) (fun sp _ => trodAll_mk1 (shut_int Tryz.underlying3 wx)) (fun _ _ => rfl) rfl hb (ok_one (by kernel_rfl) rfl (okWide_bool_mk Tryz.underlying4 _))⟩

theorem joined : joinedFacts Tryz.prog 3 Tryz.f3 Rows.loadWordsSpec Rows.loadWordsRow = true := by
  unfold joinedFacts
  rw [jIn, jUn, jRe, jNa, jLi, jPl, jSt, jMa, jLa, jMr]
  kernel_rfl

theorem holds : Rows.LoadWordsSaid :=
  OpenClaim.holds_of_wide 3 Tryz.f3 rfl rfl rfl rfl rfl rfl rfl ⟨rfl, rfl, rfl, rfl, rfl⟩ rfl rfl rfl rfl rfl (by kernel_rfl) Tryz.func3 joined
    (of_decide_eq_true (by kernel_rfl)) (by unfold Func.isWrapper; first | (rw [if_pos (by decide +kernel)]; kernel_rfl) | (rw [if_neg (by decide +kernel)]; exact ⟨rfl, rfl⟩))
    (fun os started H enc _ => lifted os started H enc)

theorem card_holds : Rows.LoadWordsCardSaid :=
  Claim7.holds_tied_plain_at .later [] [.data, .data, .data, .data, .sentinel, .sentinel, .pinned] true (true, "1f2598ef681d8dd452f08eb54072843cc7ce3c794b05b3c1d2c57a29ef5148f4") true holds (fun _ h => by cases h) (by kernel_rfl) (fun _ h => by cases h) loadWords_row_tie rfl ⟨rfl, rfl⟩ (by kernel_rfl) rfl
    (fun f fn hf hfn => by
      obtain rfl : f = 3 := Option.some.inj ((show Tryz.prog.funcNamed "marginalia/marginalialaw21.LoadWords" = some 3 by kernel_rfl).symm.trans hf) |>.symm
      obtain rfl : fn = Tryz.f3 := (Option.some.inj (Tryz.func3.symm.trans hfn)).symm
      exact ⟨by kernel_rfl, fun j t ht => by
        rw [Tryz.params3] at ht
        have hm : t ∈ [3] := by simpa using Array.mem_of_getElem? ht
        have hall : ([3].all fun u => !Tryz.prog.wantsStandIn u) = true := by kernel_rfl
        exact (show Tryz.prog.wantsStandIn t = false by simpa using List.all_eq_true.1 hall t hm)⟩)
    (by kernel_rfl)
#print axioms card_holds
end Go.Proofs.YtcmeampejmfbfaaGreatDoor.LoadWords
