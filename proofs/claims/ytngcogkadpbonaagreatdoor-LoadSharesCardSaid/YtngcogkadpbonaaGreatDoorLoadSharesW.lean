/- LoadShares returns true for all integers, and leaves its arguments as they were: the row. -/
import Derived.Test.YtngcogkadpbonaaGreatDoorLoadSharesRa
import Derived.Test.YtngcogkadpbonaaGreatDoorLoadSharesRb
import Derived.Test.YtngcogkadpbonaaGreatDoorLoadSharesRc
import Derived.Test.YtngcogkadpbonaaGreatDoorLoadSharesRd
import Derived.Test.YtngcogkadpbonaaGreatDoorLoadSharesRe
import Derived.Test.YtngcogkadpbonaaGreatDoorLoadSharesRf
import Derived.Test.YtngcogkadpbonaaGreatDoorLoadSharesRg
import Derived.Test.YtngcogkadpbonaaGreatDoorLoadSharesRh
import Derived.Test.YtngcogkadpbonaaGreatDoorLoadSharesRi
import Derived.Test.YtngcogkadpbonaaGreatDoorLoadSharesRj
import Derived.Test.YtngcogkadpbonaaGreatDoorLoadSharesRk
import Derived.Test.YtngcogkadpbonaaGreatDoorLoadSharesRl
import Derived.Test.YtngcogkadpbonaaGreatDoorLoadSharesRm
import Derived.Test.YtngcogkadpbonaaGreatDoorLoadSharesRn
import Derived.Test.YtngcogkadpbonaaGreatDoorLoadSharesRo
import Derived.Test.YtngcogkadpbonaaGreatDoorLoadSharesRp
import Derived.Test.YtngcogkadpbonaaGreatDoorLoadSharesRq
import Derived.Test.YtngcogkadpbonaaGreatDoorLoadSharesRr
import Derived.Test.YtngcogkadpbonaaGreatDoorLoadSharesRs
import Derived.Test.YtngcogkadpbonaaGreatDoorLoadSharesRt
import Derived.Test.YtngcogkadpbonaaGreatDoorLoadSharesRu
import Derived.Test.YtngcogkadpbonaaGreatDoorLoadSharesRv
import Derived.Test.YtngcogkadpbonaaGreatDoorLoadSharesRz
import Derived.Test.YtngcogkadpbonaaGreatDoorLoadSharesJ0
import Derived.Test.YtngcogkadpbonaaGreatDoorLoadSharesJ1
import Derived.Test.YtngcogkadpbonaaGreatDoorLoadSharesJ2
import Derived.Test.YtngcogkadpbonaaGreatDoorAl
import Derived.Test.YtngcogkadpbonaaGreatDoorTie
import Derived.Test.YtngcogkadpbonaaGreatDoorCards
import Derived.ProofKit
import Derived.OpenShut
import Derived.LaidMore
import Derived.Lay
import Derived.SevenTiedAt
import Derived.Stop.Joined
set_option linter.unusedSimpArgs false
set_option linter.unusedVariables false
namespace Go.Proofs.YtngcogkadpbonaaGreatDoor.LoadShares
open Go Go.Iv Go.ChangeShapes Go.WideShapes Go.ChangeAt Go.RowKit
theorem own:ownKnob Tryz.prog.godebug=none:=by kernel_rfl
theorem Wb (b:Int):Shown (Int.ofNat 1) b:=by
 cases b with
 |negSucc k=>exact Vc k
 |ofNat k=>
  rcases Nat.lt_or_ge k 6 with h |h
  ·have hk:k=0∨k=1∨k=2∨k=3∨k=4∨k=5:=by omega
   rcases hk with rfl |rfl |rfl |rfl |rfl |rfl
   ·exact Gj
   ·exact IF
   ·exact NX
   ·exact Fm
   ·exact Ft
   ·exact HV
  ·obtain ⟨j,rfl⟩:∃ j,k=j+6:=⟨k - 6,by omega⟩
   exact Vd j
theorem Vz (b:Int):Shown (Int.ofNat 2) b:=by
 cases b with
 |negSucc k=>exact UY k
 |ofNat k=>
  rcases Nat.lt_or_ge k 6 with h |h
  ·have hk:k=0∨k=1∨k=2∨k=3∨k=4∨k=5:=by omega
   rcases hk with rfl |rfl |rfl |rfl |rfl |rfl
   ·exact DQ
   ·exact Oo
   ·exact MU
   ·exact HD
   ·exact ID
   ·exact MW
  ·obtain ⟨j,rfl⟩:∃ j,k=j+6:=⟨k - 6,by omega⟩
   exact Wm j
theorem Uo (b:Int):Shown (Int.ofNat 3) b:=by
 cases b with
 |negSucc k=>exact TZ k
 |ofNat k=>
  rcases Nat.lt_or_ge k 6 with h |h
  ·have hk:k=0∨k=1∨k=2∨k=3∨k=4∨k=5:=by omega
   rcases hk with rfl |rfl |rfl |rfl |rfl |rfl
   ·exact B7
   ·exact NH
   ·exact KI
   ·exact Nc
   ·exact K4
   ·exact LX
  ·obtain ⟨j,rfl⟩:∃ j,k=j+6:=⟨k - 6,by omega⟩
   exact Vy j
theorem Wo (b:Int):Shown (Int.ofNat 4) b:=by
 cases b with
 |negSucc k=>exact Uz k
 |ofNat k=>
  rcases Nat.lt_or_ge k 6 with h |h
  ·have hk:k=0∨k=1∨k=2∨k=3∨k=4∨k=5:=by omega
   rcases hk with rfl |rfl |rfl |rfl |rfl |rfl
   ·exact NO
   ·exact Fo
   ·exact EH
   ·exact M7
   ·exact GC
   ·exact LJ
  ·obtain ⟨j,rfl⟩:∃ j,k=j+6:=⟨k - 6,by omega⟩
   exact TT j
theorem UC (b:Int):Shown (Int.ofNat 5) b:=by
 cases b with
 |negSucc k=>exact Va k
 |ofNat k=>
  rcases Nat.lt_or_ge k 6 with h |h
  ·have hk:k=0∨k=1∨k=2∨k=3∨k=4∨k=5:=by omega
   rcases hk with rfl |rfl |rfl |rfl |rfl |rfl
   ·exact MC
   ·exact Cp
   ·exact B4
   ·exact Kj
   ·exact CD
   ·exact Dp
  ·obtain ⟨j,rfl⟩:∃ j,k=j+6:=⟨k - 6,by omega⟩
   exact Tw j
theorem TF (b:Int):Shown (Int.ofNat 6) b:=by
 cases b with
 |negSucc k=>exact Vm k
 |ofNat k=>
  rcases Nat.lt_or_ge k 6 with h |h
  ·have hk:k=0∨k=1∨k=2∨k=3∨k=4∨k=5:=by omega
   rcases hk with rfl |rfl |rfl |rfl |rfl |rfl
   ·exact OA
   ·exact G1
   ·exact IL
   ·exact KV
   ·exact Dz
   ·exact L6
  ·obtain ⟨j,rfl⟩:∃ j,k=j+6:=⟨k - 6,by omega⟩
   exact T4 j
theorem Up (b:Int):Shown (Int.ofNat 7) b:=by
 cases b with
 |negSucc k=>exact VI k
 |ofNat k=>
  rcases Nat.lt_or_ge k 6 with h |h
  ·have hk:k=0∨k=1∨k=2∨k=3∨k=4∨k=5:=by omega
   rcases hk with rfl |rfl |rfl |rfl |rfl |rfl
   ·exact Fz
   ·exact FT
   ·exact LS
   ·exact GA
   ·exact Cm
   ·exact CF
  ·obtain ⟨j,rfl⟩:∃ j,k=j+6:=⟨k - 6,by omega⟩
   exact TG j
theorem T9 (b:Int):Shown (Int.ofNat 8) b:=by
 cases b with
 |negSucc k=>exact VF k
 |ofNat k=>
  rcases Nat.lt_or_ge k 6 with h |h
  ·have hk:k=0∨k=1∨k=2∨k=3∨k=4∨k=5:=by omega
   rcases hk with rfl |rfl |rfl |rfl |rfl |rfl
   ·exact FM
   ·exact N9
   ·exact NC
   ·exact HP
   ·exact Hy
   ·exact EM
  ·obtain ⟨j,rfl⟩:∃ j,k=j+6:=⟨k - 6,by omega⟩
   exact Wh j
theorem runs (a b:Int):Shown a b:=by
 cases a with
 |negSucc k=>exact Wx k b
 |ofNat k=>
  rcases Nat.lt_or_ge k 9 with h |h
  ·have hk:k=0∨k=1∨k=2∨k=3∨k=4∨k=5∨k=6∨k=7∨k=8:=by omega
   rcases hk with rfl |rfl |rfl |rfl |rfl |rfl |rfl |rfl |rfl
   ·exact WU b
   ·exact Wb b
   ·exact Vz b
   ·exact Uo b
   ·exact Wo b
   ·exact UC b
   ·exact TF b
   ·exact Up b
   ·exact T9 b
  ·obtain ⟨j,rfl⟩:∃ j,k=j+9:=⟨k - 9,by omega⟩
   exact WS j b
theorem walk (a b:Int) (w:World) (hl:laidMetH Tryz.prog laidAll w):Calls Tryz.prog 3 #[.int .i64 a,.int .i64 b] w fun e w'=>e= .returned (.bool true)/\Below w.heap.size w w':=by
 obtain ⟨sp,hsp,hr⟩:=runs a b;exact JC (args:=#[.int .i64 a,.int .i64 b]) (hint:=hint) (spec:=sp) (n:=3000) (fuel:=4) (gl:= []) mixed ah hsp IV hl Xd rfl hr
set_option maxRecDepth 100000 in
theorem lifted (os:Os) (started:os.Started) (H:Type) (enc:TypeId×Value->H):
  ReturnsInHanded {} Tryz.checked os 3 .any (fun w args=>(Rows.loadSharesSpec.pre enc Tryz.prog Tryz.f3 Rows.loadSharesRow.domain false w args/\laidMetH Tryz.prog laidAll w)/\sizedMet enc Tryz.prog Tryz.f3 (OpenSpec.ofChange Rows.loadSharesSpec) false w args)
   (Rows.loadSharesSpec.post enc Tryz.prog Tryz.f3 false true false false):=by
 refine returnsInHanded_of_change_and (C:=Tryz.checked) (X:=fun w _=>laidMetH Tryz.prog laidAll w) (fun _ _ _ hh h=>h.of_heap hh) own started (by kernel_rfl) Tryz.func3
  (ChangeSpec.witness_shaped (enc:=enc) (C:=Tryz.checked) (os:=os) (X:=fun w _=>laidMetH Tryz.prog laidAll w) false (World.laidAll Tryz.prog os laidAll) #[.int .i64 0,.int .i64 0] 8 (World.laidAll_os _ _ _)
   (World.shaped_of_ZipB (by kernel_rfl) (by kernel_rfl)) (by kernel_rfl) (by kernel_rfl) (by kernel_rfl)
   (by rw [MakeChecks.laidMetH_plain _ _ _ (by kernel_rfl)];exact laidMet_laidAll _ (by kernel_rfl) (by kernel_rfl))) ?_
 intro W base args ds gs before hval0 hW hc _ hL _;have hval:∀ (j:Nat) t v,Tryz.f3.params[j]? =some t->args[j]? =some v->Value.okWide Tryz.prog W .any base t v:=hval0;have hW':=hW;obtain ⟨p,q,hA0,hV,rfl,_,_⟩:=hW;have hA:DataW.TrodAll enc Tryz.prog W 0 (fun _=>true) true Tryz.f3.params.toList args.toList ds p:=hA0;rw [Tryz.params3] at hA hval;obtain ⟨v0,v1,d0,d1,p0,p1,rfl,rfl,rfl,h0,h1⟩:=trodAll_two hA;obtain ⟨rfl,rfl⟩:=trodVars_none hV;obtain ⟨x,rfl,rfl,rfl,wx⟩:=open_int Tryz.underlying3 (hval 0 3 v0 rfl rfl) h0;obtain ⟨y,rfl,rfl,rfl,wy⟩:=open_int Tryz.underlying3 (hval 1 3 v1 rfl rfl) h1;simp only [List.append_nil] at hW';refine (walk x y W hL).mono fun e W' ⟨he,hb⟩=>?_
 subst he;exact ⟨_,rfl,sD (pa:= []) (pv:= []) hW' (fun _ _ _=>trodAll_mk1 (shut_bool Tryz.underlying4 _)) (fun sp _=>trodAll_mk2 (shut_int Tryz.underlying3 wx) (shut_int Tryz.underlying3 wy)) (fun _ _=>rfl) rfl hb (ok_one (by kernel_rfl) rfl (okWide_bool_mk Tryz.underlying4 _))⟩
theorem sL:joinedFacts Tryz.prog 3 Tryz.f3 Rows.loadSharesSpec Rows.loadSharesRow=true:=by
 unfold joinedFacts;rw [XB,Xy,Xp,Xv,Xw,XA,Xq,Xz,Xx,Xt]
 kernel_rfl
theorem holds:Rows.LoadSharesSaid:=
 OpenClaim.holds_of_wide 3 Tryz.f3 rfl rfl rfl rfl rfl rfl rfl ⟨rfl,rfl,rfl,rfl,rfl⟩ rfl rfl rfl rfl rfl (by kernel_rfl) Tryz.func3 sL
  (of_decide_eq_true (by kernel_rfl)) (by unfold Func.isWrapper;first |(rw [if_pos (by decide+kernel)];kernel_rfl) |(rw [if_neg (by decide+kernel)];exact ⟨rfl,rfl⟩))
  (fun os started H enc _=>lifted os started H enc)
end Go.Proofs.YtngcogkadpbonaaGreatDoor.LoadShares
