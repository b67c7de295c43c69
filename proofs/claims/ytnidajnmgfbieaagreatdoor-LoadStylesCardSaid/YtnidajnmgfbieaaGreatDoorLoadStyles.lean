/- LoadStyles returns true for every integer, and leaves its argument as it was. -/
import Derived.Test.YtnidajnmgfbieaaGreatDoorLoadStylesR0b
import Derived.Test.YtnidajnmgfbieaaGreatDoorLoadStylesR1b
import Derived.Test.YtnidajnmgfbieaaGreatDoorLoadStylesR2b
import Derived.Test.YtnidajnmgfbieaaGreatDoorLoadStylesR3b
import Derived.Test.YtnidajnmgfbieaaGreatDoorLoadStylesR4b
import Derived.Test.YtnidajnmgfbieaaGreatDoorLoadStylesR5b
import Derived.Test.YtnidajnmgfbieaaGreatDoorLoadStylesR6b
import Derived.Test.YtnidajnmgfbieaaGreatDoorLoadStylesR7b
import Derived.Test.YtnidajnmgfbieaaGreatDoorLoadStylesRz
import Derived.Test.YtnidajnmgfbieaaGreatDoorLoadStylesJ0
import Derived.Test.YtnidajnmgfbieaaGreatDoorLoadStylesJ1
import Derived.Test.YtnidajnmgfbieaaGreatDoorLoadStylesJ2
import Derived.Test.YtnidajnmgfbieaaGreatDoorAl
import Derived.Test.YtnidajnmgfbieaaGreatDoorTie
import Derived.Test.YtnidajnmgfbieaaGreatDoorCards
import Derived.ProofKit
import Derived.OpenShut
import Derived.LaidMore
import Derived.Lay
import Derived.SevenTiedAt
import Derived.Stop.Joined
set_option linter.unusedSimpArgs false
set_option linter.unusedVariables false
namespace Go.Proofs.YtnidajnmgfbieaaGreatDoor.LoadStyles
open Go Go.Iv Go.ChangeShapes Go.WideShapes Go.ChangeAt Go.RowKit
theorem own:ownKnob Tryz.prog.godebug=none:=by kernel_rfl
theorem runs (a0:Int):Shown a0:=by
 cases a0 with
 |negSucc k=>exact oN k
 |ofNat k=>
  rcases Nat.lt_or_ge k 8 with h |h
  ·have hk:k=0∨k=1∨k=2∨k=3∨k=4∨k=5∨k=6∨k=7:=by omega
   rcases hk with rfl |rfl |rfl |rfl |rfl |rfl |rfl |rfl
   ·exact oW
   ·exact pJ
   ·exact oX
   ·exact oV
   ·exact pz
   ·exact pr
   ·exact pU
   ·exact o0
  ·obtain ⟨j,rfl⟩:∃ j,k=j+8:=⟨k - 8,by omega⟩
   exact oZ j
theorem walk (a0:Int) (w:World) (hl:laidMetH Tryz.prog laidAll w):Calls Tryz.prog 3 #[.int .i64 a0] w fun e w'=>e= .returned (.bool true)/\Below w.heap.size w w':=by
 obtain ⟨gl,sp,hg,hsp,hr⟩:=runs a0;exact ly (hint:=hint) (spec:=sp) (n:=3000) (fuel:=4) (gl:=gl) mixed bd hsp mD hl hg hr
set_option maxRecDepth 100000 in
theorem lifted (os:Os) (started:os.Started) (H:Type) (enc:TypeId×Value->H):
  ReturnsInHanded {} Tryz.checked os 3 .any (fun w args=>(Rows.loadStylesSpec.pre enc Tryz.prog Tryz.f3 Rows.loadStylesRow.domain false w args/\laidMetH Tryz.prog laidAll w)/\sizedMet enc Tryz.prog Tryz.f3 (OpenSpec.ofChange Rows.loadStylesSpec) false w args)
   (Rows.loadStylesSpec.post enc Tryz.prog Tryz.f3 false true false false):=by
 refine returnsInHanded_of_change_and (C:=Tryz.checked) (X:=fun w _=>laidMetH Tryz.prog laidAll w) (fun _ _ _ hh h=>h.of_heap hh) own started (by kernel_rfl) Tryz.func3
  (ChangeSpec.witness_shaped (enc:=enc) (C:=Tryz.checked) (os:=os) (X:=fun w _=>laidMetH Tryz.prog laidAll w) false (World.laidAll Tryz.prog os laidAll) #[.int .i64 0] 8 (World.laidAll_os _ _ _)
   (World.shaped_of_ZipB (by kernel_rfl) (by kernel_rfl)) (by kernel_rfl) (by kernel_rfl) (by kernel_rfl)
   (by rw [MakeChecks.laidMetH_plain _ _ _ (by kernel_rfl)];exact laidMet_laidAll _ (by kernel_rfl) (by kernel_rfl))) ?_
 intro W base args ds gs before hval0 hW hc _ hL _;have hval:∀ (j:Nat) t v,Tryz.f3.params[j]? =some t->args[j]? =some v->Value.okWide Tryz.prog W .any base t v:=hval0;have hW':=hW;obtain ⟨p,q,hA0,hV,rfl,_,_⟩:=hW;have hA:DataW.TrodAll enc Tryz.prog W 0 (fun _=>true) true Tryz.f3.params.toList args.toList ds p:=hA0;rw [Tryz.params3] at hA hval;obtain ⟨v0,d0,rfl,rfl,h0⟩:=trodAll_one hA;obtain ⟨rfl,rfl⟩:=trodVars_none hV;obtain ⟨x,rfl,rfl,rfl,wx⟩:=open_int Tryz.underlying3 (hval 0 3 v0 rfl rfl) h0;simp only [List.append_nil] at hW';refine (walk x W hL).mono fun e W' ⟨he,hb⟩=>?_
 subst he;exact ⟨_,rfl,kz (pa:= []) (pv:= []) hW' (fun _ _ _=>trodAll_mk1 (shut_bool Tryz.underlying4 _)) (fun sp _=>trodAll_mk1 (shut_int Tryz.underlying3 wx)) (fun _ _=>rfl) rfl hb (ok_one (by kernel_rfl) rfl (okWide_bool_mk Tryz.underlying4 _))⟩
theorem kf:joinedFacts Tryz.prog 3 Tryz.f3 Rows.loadStylesSpec Rows.loadStylesRow=true:=by
 unfold joinedFacts;rw [sj,sy,sr,sm,so,sq,sn,sB,ss,sD]
 kernel_rfl
theorem holds:Rows.LoadStylesSaid:=
 OpenClaim.holds_of_wide 3 Tryz.f3 rfl rfl rfl rfl rfl rfl rfl ⟨rfl,rfl,rfl,rfl,rfl⟩ rfl rfl rfl rfl rfl (by kernel_rfl) Tryz.func3 kf
  (of_decide_eq_true (by kernel_rfl)) (by unfold Func.isWrapper;first |(rw [if_pos (by decide+kernel)];kernel_rfl) |(rw [if_neg (by decide+kernel)];exact ⟨rfl,rfl⟩))
  (fun os started H enc _=>lifted os started H enc)
theorem card_holds:Rows.LoadStylesCardSaid:=
 Claim7.holds_tied_plain_at .later [] [.data, .data, .data, .data, .sentinel, .sentinel, .pinned] true (true, "202456fe11ef933394ed7a6b1e2fb08dafe542b027c7b61633de665d8788c200") true holds (fun _ h => by cases h) (by kernel_rfl) (fun _ h => by cases h) loadStyles_row_tie rfl ⟨rfl, rfl⟩ (by kernel_rfl) rfl
  (fun f fn hf hfn=>by
   obtain rfl : f = 3 := Option.some.inj ((show Tryz.prog.funcNamed "marginalia/marginalialaw21.LoadStyles" = some 3 by kernel_rfl).symm.trans hf) |>.symm
   obtain rfl:fn=Tryz.f3:=(Option.some.inj (Tryz.func3.symm.trans hfn)).symm;exact ⟨by kernel_rfl,fun j t ht=>by
    rw [Tryz.params3] at ht;have hm:t∈ [3]:=by simpa using Array.mem_of_getElem? ht
    have hall:([3].all fun u=> !Tryz.prog.wantsStandIn u)=true:=by kernel_rfl
    exact (show Tryz.prog.wantsStandIn t=false by simpa using List.all_eq_true.1 hall t hm)⟩)
  (by kernel_rfl)
#print axioms card_holds
end Go.Proofs.YtnidajnmgfbieaaGreatDoor.LoadStyles
