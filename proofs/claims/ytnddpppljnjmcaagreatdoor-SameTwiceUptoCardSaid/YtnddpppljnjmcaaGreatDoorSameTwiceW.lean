/- SameTwice returns true for all arguments, and leaves its arguments as they were. -/
import Derived.Test.YtnddpppljnjmcaaGreatDoorLaw
import Derived.Test.YtnddpppljnjmcaaGreatDoorSameTwiceJ0
import Derived.Test.YtnddpppljnjmcaaGreatDoorSameTwiceJ1
import Derived.Test.YtnddpppljnjmcaaGreatDoorSameTwiceJ2
import Derived.Test.YtnddpppljnjmcaaGreatDoorGvSpecX
import Derived.Test.YtnddpppljnjmcaaGreatDoorTie
import Derived.Test.YtnddpppljnjmcaaGreatDoorCards
import Derived.ProofKit
import Derived.OpenShut
import Derived.LaidMore
import Derived.Lay
import Derived.SevenTiedAt
import Derived.Stop.Joined
import Derived.ChangeMaps5
import Derived.Deep.DeepHandedRow
set_option linter.unusedSimpArgs false
set_option linter.unusedVariables false
namespace Go.Proofs.YtnddpppljnjmcaaGreatDoor.SameTwice
open Go Go.Iv Go.Gv Go.ChangeShapes Go.WideShapes Go.ChangeAt Go.RowKit
theorem own:ownKnob Tryz.prog.godebug=none:=by kernel_rfl
theorem laidOut:laidOutB Tryz.prog=true:=by kernel_rfl
theorem mixed:Tryz.prog.follows .mixedOrders=true:=by kernel_rfl
theorem noRt:noNG Tryz.prog=true:=by kernel_rfl
def laidAll : List (String × DataW Unit) := [("math/bits.deBruijn32tab", Rows.laid_math_bits_deBruijn32tab), ("math/bits.deBruijn64tab", Rows.laid_math_bits_deBruijn64tab), ("internal/strconv.uint64pow10", Rows.laid_internal_strconv_uint64pow10), ("unicode/utf8.acceptRanges", Rows.laid_unicode_utf8_acceptRanges), ("strconv.ErrRange", Rows.laid_strconv_ErrRange), ("strconv.ErrSyntax", Rows.laid_strconv_ErrSyntax), ("unicode/utf8.first", Rows.laid_unicode_utf8_first)]
theorem noHandle:(laidAll.filter fun x=>x.2.handleName?.isSome)= []:=by kernel_rfl
theorem gl_is:(gvals Tryz.prog 4 laidAll).filter (fun x=>memN [3,4,2,1,0] x.1)=glOf tbL:=by kernel_rfl
theorem bd_ok:glN+0+bdA sameTwice_it.pa≤roN:=by decide+kernel
theorem u4:Tryz.prog.underlying 4=some .bool:=by kernel_rfl
theorem one_le {H:Type} (d:DataW H):1≤Rows.uptoBulk d:=by
 cases d with
 |lit l=>cases l<;>simp [Rows.uptoBulk]
 |nil=>simp [Rows.uptoBulk]
 |ptr d=>simp [Rows.uptoBulk]
 |slice elems spare=>simp [Rows.uptoBulk]
 |agg parts=>simp [Rows.uptoBulk]
 |iface t d=>simp [Rows.uptoBulk]
 |map entries=>simp [Rows.uptoBulk]
 |held h=>simp [Rows.uptoBulk]
theorem part_le {H:Type} {d:DataW H}:∀ {l:List (DataW H)},d∈l→Rows.uptoBulk d≤Rows.uptoBulkAll l
 |x::r,h=>by
  simp only [Rows.uptoBulkAll]
  rcases List.mem_cons.1 h with rfl |h
  ·omega
  ·have:=part_le h;omega
theorem length_le {H:Type}:∀ l:List (DataW H),l.length≤Rows.uptoBulkAll l
 | []=>by simp [Rows.uptoBulkAll]
 |x::r=>by have:=one_le x;have:=length_le r;simp only [Rows.uptoBulkAll,List.length_cons];omega
theorem bdU {H:Type}:BdQ (fun d:DataW H=>Rows.uptoBulk d≤1048576) 1048576:= ⟨fun b _ h=>by simp only [Rows.uptoBulk] at h;omega,fun ds h d hd=>by have:=part_le hd;simp only [Rows.uptoBulk] at h;omega,
 fun es sp _ h=>by have:=length_le es;have:=length_le sp;simp only [Rows.uptoBulk] at h;omega,fun es sp h=> ⟨fun d hd=>by have:=part_le hd;simp only [Rows.uptoBulk] at h;omega,fun d hd=>by have:=part_le hd;simp only [Rows.uptoBulk] at h;omega⟩⟩
set_option maxRecDepth 100000 in
theorem walk {H:Type} {enc:TypeId×Value→H} (W:World) (hL:laidMetH Tryz.prog laidAll W) {args:Array Value} {ds:List (DataW H)} {ps:List MemPlace} (hA:DataW.TrodAll enc Tryz.prog W 0 (fun _=>true) true [45] args.toList ds ps)
  (hval:∀ (j:Nat) t v,[45][j]? =some t→args.toList[j]? =some v→Value.okWide Tryz.prog W .any 0 t v) (hwt:∀ w∈DataW.weightsEach Tryz.prog [45] ds,w≤reachBytes) (hQ:∀ d∈ds,Rows.uptoBulk d≤1048576):
  Calls Tryz.prog 7 args W fun e w'=>e= .returned (.bool true)∧Below W.heap.size W w':=by
 obtain ⟨l0,φ0,S0,T0⟩:=Fst.tables (sh:=shT) (fuel:=4) (L:=tbL) noHandle hL (fun _ hx=>(List.mem_filter.1 (gl_is.symm▸hx)).1) (by kernel_rfl) rfl
 obtain ⟨n,hn⟩:∃ n:Nat,4000000≤n:= ⟨_,Nat.le_refl _⟩
 exact law_dataR bdU (it:=sameTwice_it) (n:=n) specs_ok noRt mixed (by kernel_rfl) (sameTwice_ok n) (y:=(true,())) (fun x w=>sameTwice_row n hn x.1 w.1) (fun hg=>by cases hg;rfl) (.cons 9 (by kernel_rfl) (by kernel_rfl) (.nil)) S0 T0 bd_ok hA hval hwt hQ
set_option maxRecDepth 100000 in
theorem lifted (os:Os) (started:os.Started) (H:Type) (enc:TypeId×Value→H) (F:Stop.Interp):
  ReturnsInHanded {} Tryz.checked os 7 .any ((Rows.OpenSpec.upto Rows.sameTwiceSpec).preRow enc Tryz.prog Tryz.f7 Rows.sameTwiceUptoRow.domain false laidAll) (((Rows.OpenSpec.upto Rows.sameTwiceSpec).at F).post enc Tryz.prog Tryz.f7 false true false false):=by
 have hx:∃ pl,DataW.whole enc Tryz.prog ((World.laidAll Tryz.prog os laidAll).forCall (fun _ _=>0) ⟨#[],#[.slice none 0 0],[]⟩).memory Tryz.f7.params.toList Rows.sameTwiceSpec.vars false #[.slice none 0 0].toList 8=some ([.nil],[],pl):= ⟨[],by kernel_rfl⟩
 obtain ⟨pl,hx⟩:=hx
 have hok:Input.okWideB Tryz.prog ((World.laidAll Tryz.prog os laidAll).forCall (fun _ _=>0) ⟨#[],#[.slice none 0 0],[]⟩) 7 ⟨#[],#[.slice none 0 0],[]⟩=true:=by kernel_rfl
 refine returnsInHanded_of_row (C:=Tryz.checked) (s:=Rows.OpenSpec.upto Rows.sameTwiceSpec) own started (by kernel_rfl) Tryz.func7
  ⟨World.laidAll Tryz.prog os laidAll,fun _ _=>0,⟨#[],#[.slice none 0 0],[]⟩,World.laidAll_os _ _ _,World.shaped_of_ZipB (by kernel_rfl) (by kernel_rfl),(Input.okWide_of_okWideB (base:=0) hok).1,(Input.okWide_of_okWideB hok).2,
   OpenSpec.preRow_of_cond 8 hx (by kernel_rfl) (fun k hk=>by cases hk;kernel_rfl) (by kernel_rfl) (by rw [MakeChecks.laidMetH_plain _ _ _ (by kernel_rfl)];exact laidMet_laidAll _ (by kernel_rfl) (by kernel_rfl)),by
   simp only [Assume.holds]
   exact ⟨by simp,by simp,fun _=>Modest.zero,by simp,by simp⟩⟩ ?_
 intro W base args ds gs before hval0 hW hc hcond hwt0 hL _ _
 have hval:∀ (j:Nat) t v,Tryz.f7.params[j]? =some t→args[j]? =some v→Value.okWide Tryz.prog W .any base t v:=hval0
 have hW':=hW
 obtain ⟨p,q,hA0,hV,rfl,_,_⟩:=hW
 have hA:DataW.TrodAll enc Tryz.prog W 0 (fun _=>true) true Tryz.f7.params.toList args.toList ds p:=hA0
 rw [Tryz.params7] at hA hval
 have hB:DataW.TrodAll enc Tryz.prog W 0 (fun _=>true) true [45] args.toList ds p:=hA
 have hval2:∀ (j:Nat) t v,[45][j]? =some t→args.toList[j]? =some v→Value.okWide Tryz.prog W .any 0 t v:=fun j t v hj hv=>okWide_base (hval j t v (by simpa using hj) (by simpa using hv))
 obtain ⟨rfl,rfl⟩:=trodVars_none hV
 have hwt1:(DataW.weightsEach Tryz.prog [45] (ds++ [])).all (fun w=>decide (w≤reachBytes))=true:=by
  rw [Tryz.params7] at hwt0
  exact hwt0
 rw [List.append_nil] at hwt1
 have hwt:∀ w∈DataW.weightsEach Tryz.prog [45] ds,w≤reachBytes:=fun w hw=>of_decide_eq_true (List.all_eq_true.1 hwt1 w hw)
 obtain ⟨v0,d0,rfl,rfl,h0⟩:=trodAll_one hA
 simp only [List.append_nil] at hW'
 have hk:=of_decide_eq_true (hcond _ rfl)
 rw [List.append_nil] at hk
 refine (walk W hL hB hval2 hwt (fun d hd=>Nat.le_trans (part_le hd) hk)).mono fun e W' ⟨he,hb⟩=>?_
 subst he
 exact ⟨_,rfl,post_below (pa:=p) (pv:= []) hW' (fun _ _ _=>trodAll_mk1 (shut_bool u4 _)) (fun sp hsp=>trodAll_mk1 (keep1 laidOut (by kernel_rfl) (of_decide_eq_true (by kernel_rfl)) h0 hb (fun x hx=>hW'.lt x (by simp [hx])) sp (fun x hx=>hsp x (by simp [hx])))) (fun _ _=>rfl) (by simp) hb (ok_one (by kernel_rfl) rfl (okWide_bool_mk u4 _))⟩
theorem joined:joinedFacts Tryz.prog 7 Tryz.f7 (Rows.OpenSpec.upto Rows.sameTwiceSpec).bare Rows.sameTwiceUptoRow=true:=by
 unfold joinedFacts
 rw [jIn,jUn,jRe,jNa,jLi,jPl,jSt,jMa,jLa,jMr]
 kernel_rfl
theorem holds:Rows.SameTwiceUptoSaid:=
 OpenClaim.holds_of_cond 7 Tryz.f7 rfl rfl rfl rfl rfl rfl rfl ⟨rfl,rfl,rfl,rfl,rfl⟩ rfl rfl rfl rfl rfl (by kernel_rfl) Tryz.func7 joined
  (of_decide_eq_true (by kernel_rfl)) (by unfold Func.isWrapper;first |(rw [if_pos (by decide+kernel)];kernel_rfl) |(rw [if_neg (by decide+kernel)];exact ⟨rfl,rfl⟩))
  (fun os started H enc _ F=>by rw [OpenClaim.pre_eq_preRow];exact lifted os started H enc F)
end Go.Proofs.YtnddpppljnjmcaaGreatDoor.SameTwice
