/- PlanComposes returns true for all arguments, and leaves its arguments as they were. -/
import Derived.Test.YteknbnkjelmfaaaGreatDoorLaw2
import Derived.Test.YteknbnkjelmfaaaGreatDoorPlanComposesJ0
import Derived.Test.YteknbnkjelmfaaaGreatDoorPlanComposesJ1
import Derived.Test.YteknbnkjelmfaaaGreatDoorPlanComposesJ2
import Derived.Test.YteknbnkjelmfaaaGreatDoorTie
import Derived.Test.YteknbnkjelmfaaaGreatDoorCards
import Derived.ProofKit
import Derived.OpenShut
import Derived.LaidMore
import Derived.Lay
import Derived.SevenTiedAt
import Derived.Stop.Joined
import Derived.ChangeMaps5
set_option linter.unusedSimpArgs false
set_option linter.unusedVariables false
namespace Go.Proofs.YteknbnkjelmfaaaGreatDoor.PlanComposes
open Go Go.Iv Go.Gv Go.ChangeShapes Go.WideShapes Go.ChangeAt Go.RowKit
theorem own:ownKnob Tryz.prog.godebug=none:=by kernel_rfl
theorem laidOut:laidOutB Tryz.prog=true:=by kernel_rfl
theorem mixed:Tryz.prog.follows .mixedOrders=true:=by kernel_rfl
theorem Uk:lr Tryz.prog=true:=by kernel_rfl
def laidAll : List (String × DataW Unit) := [("math/bits.deBruijn32tab", Rows.laid_math_bits_deBruijn32tab), ("math/bits.deBruijn64tab", Rows.laid_math_bits_deBruijn64tab), ("internal/strconv.uint64pow10", Rows.laid_internal_strconv_uint64pow10), ("unicode/utf8.acceptRanges", Rows.laid_unicode_utf8_acceptRanges), ("strconv.ErrRange", Rows.laid_strconv_ErrRange), ("strconv.ErrSyntax", Rows.laid_strconv_ErrSyntax), ("unicode/utf8.first", Rows.laid_unicode_utf8_first)]
theorem NH:(laidAll.filter fun x=>x.2.handleName?.isSome)= []:=by kernel_rfl
theorem TI:(qb Tryz.prog 4 laidAll).filter (fun x=>AF [3,4,2,1,0] x.1)=Ck Uw:=by kernel_rfl
theorem Tn:bI+0+SS gN.pa<=ep:=by decide+kernel
theorem u4:Tryz.prog.underlying 4=some .bool:=by kernel_rfl
set_option maxRecDepth 100000 in
theorem walk {H:Type} {enc:TypeId×Value->H} (W:World) (hL:laidMetH Tryz.prog laidAll W) {args:Array Value} {ds:List (DataW H)} {ps:List MemPlace} (hA:DataW.TrodAll enc Tryz.prog W 0 (fun _=>true) true [25,27] args.toList ds ps)
  (hval:∀ (j:Nat) t v,[25,27][j]? =some t->args.toList[j]? =some v->Value.okWide Tryz.prog W .any 0 t v) (hwt:∀ w∈DataW.weightsEach Tryz.prog [25,27] ds,w<=reachBytes):
  Calls Tryz.prog 4 args W fun e w'=>e= .returned (.bool true)/\Below W.heap.size W w':=by
 obtain ⟨l0,φ0,S0,T0⟩:=qo.tables (sh:=s8) (fuel:=4) (L:=Uw) NH hL (fun _ hx=>(List.mem_filter.1 (TI.symm▸hx)).1) (by kernel_rfl) rfl;obtain ⟨n,hn⟩:∃ n:Nat,50000000<=n:=⟨_,zal _⟩;exact Lc (it:=gN) (n:=n) ME Uk mixed (by kernel_rfl) (sI n) (y:=(true,())) (fun x w=>oP n hn x.1 x.2.1 w.1 w.2.1) (fun hg=>by cases hg;rfl) (.cons 9 (by kernel_rfl) (by kernel_rfl) (.cons 9 (by kernel_rfl) (by kernel_rfl) (.nil))) S0 T0 Tn hA hval hwt
set_option maxRecDepth 100000 in
theorem lifted (os:Os) (started:os.Started) (H:Type) (enc:TypeId×Value->H):
  ReturnsInHanded {} Tryz.checked os 4 .any (fun w args=>(Rows.planComposesSpec.pre enc Tryz.prog Tryz.f4 Rows.planComposesRow.domain false w args/\laidMetH Tryz.prog laidAll w)/\sizedMet enc Tryz.prog Tryz.f4 (OpenSpec.ofChange Rows.planComposesSpec) false w args)
   (Rows.planComposesSpec.post enc Tryz.prog Tryz.f4 false true false false):=by
 refine returnsInHanded_of_change_and (C:=Tryz.checked) (X:=fun w _=>laidMetH Tryz.prog laidAll w) (fun _ _ _ hh h=>h.of_heap hh) own started (by kernel_rfl) Tryz.func4
  (ChangeSpec.witness_shaped (enc:=enc) (C:=Tryz.checked) (os:=os) (X:=fun w _=>laidMetH Tryz.prog laidAll w) false (World.laidAll Tryz.prog os laidAll) #[.agg #[.slice none 0 0,.slice none 0 0],.agg #[.int .i64 0,.int .i64 0,.int .i64 0,.bool false,.bool false]] 8 (World.laidAll_os _ _ _)
   (World.shaped_of_ZipB (by kernel_rfl) (by kernel_rfl)) (by kernel_rfl) (by kernel_rfl) (by kernel_rfl)
   (by rw [MakeChecks.laidMetH_plain _ _ _ (by kernel_rfl)];exact laidMet_laidAll _ (by kernel_rfl) (by kernel_rfl))) ?_
 intro W base args ds gs before hval0 hW hc hwt0 hL _;have hval:∀ (j:Nat) t v,Tryz.f4.params[j]? =some t->args[j]? =some v->Value.okWide Tryz.prog W .any base t v:=hval0;have hW':=hW;obtain ⟨p,q,hA0,hV,rfl,_,_⟩:=hW;have hA:DataW.TrodAll enc Tryz.prog W 0 (fun _=>true) true Tryz.f4.params.toList args.toList ds p:=hA0;rw [Tryz.params4] at hA hval;have hB:DataW.TrodAll enc Tryz.prog W 0 (fun _=>true) true [25,27] args.toList ds p:=hA;have hval2:∀ (j:Nat) t v,[25,27][j]? =some t->args.toList[j]? =some v->Value.okWide Tryz.prog W .any 0 t v:=fun j t v hj hv=>Bm (hval j t v (by simpa using hj) (by simpa using hv))
 obtain ⟨rfl,rfl⟩:=trodVars_none hV;have hwt1:(DataW.weightsEach Tryz.prog [25,27] (ds++ [])).all (fun w=>decide (w<=reachBytes))=true:=by
  rw [Tryz.params4] at hwt0;exact hwt0
 rw [List.append_nil] at hwt1;have hwt:∀ w∈DataW.weightsEach Tryz.prog [25,27] ds,w<=reachBytes:=fun w hw=>of_decide_eq_true (List.all_eq_true.1 hwt1 w hw)
 obtain ⟨v0,v1,d0,d1,p0,p1,rfl,rfl,rfl,h0,h1⟩:=trodAll_two hA;simp only [List.append_nil] at hW';refine (walk W hL hB hval2 hwt).mono fun e W' ⟨he,hb⟩=>?_
 subst he;exact ⟨_,rfl,FR (pa:=p0++(p1)) (pv:= []) hW' (fun _ _ _=>trodAll_mk1 (shut_bool u4 _)) (fun sp hsp=>trodAll_mk2 (Q3 laidOut (by kernel_rfl) (of_decide_eq_true (by kernel_rfl)) h0 hb (fun x hx=>hW'.lt x (by simp [hx])) sp (fun x hx=>hsp x (by simp [hx]))) (Q3 laidOut (by kernel_rfl) (of_decide_eq_true (by kernel_rfl)) h1 hb (fun x hx=>hW'.lt x (by simp [hx])) sp (fun x hx=>hsp x (by simp [hx])))) (fun _ _=>rfl) (by simp) hb (ok_one (by kernel_rfl) rfl (okWide_bool_mk u4 _))⟩
theorem Du:joinedFacts Tryz.prog 4 Tryz.f4 Rows.planComposesSpec Rows.planComposesRow=true:=by
 unfold joinedFacts;rw [Vw,Vb,Vr,Vc,Vm,Vq,Vs,Vj,U9,Vi]
 kernel_rfl
theorem holds:Rows.PlanComposesSaid:=
 OpenClaim.holds_of_wide 4 Tryz.f4 rfl rfl rfl rfl rfl rfl rfl ⟨rfl,rfl,rfl,rfl,rfl⟩ rfl rfl rfl rfl rfl (by kernel_rfl) Tryz.func4 Du
  (of_decide_eq_true (by kernel_rfl)) (by unfold Func.isWrapper;first |(rw [if_pos (by decide+kernel)];kernel_rfl) |(rw [if_neg (by decide+kernel)];exact ⟨rfl,rfl⟩))
  (fun os started H enc _=>lifted os started H enc)
end Go.Proofs.YteknbnkjelmfaaaGreatDoor.PlanComposes
