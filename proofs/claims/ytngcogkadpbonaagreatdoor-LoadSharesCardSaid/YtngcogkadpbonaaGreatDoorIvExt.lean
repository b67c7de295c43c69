/- The functions without a Go body. -/
import Derived.Test.YtngcogkadpbonaaGreatDoorIvOpsY
import Derived.KernelRfl
import Derived.Lib.Bytealg
import Derived.Lib.MakeNoZero
set_option linter.unusedSimpArgs false
set_option linter.unusedVariables false
namespace Go.Iv
open Go
variable {P:Program} {Γ Γ':Ga} {H H':IH} {w w':World}
theorem bw {f : FuncId} {fn : Func} (hf : P.funcs[f]? = some fn) (hb : fn.body = none) (hn : fn.name ≠ "runtime.NumGoroutine") (h0 : Extern.findNext fn = none) {e : Array Value -> Sem Value} (h1 : Extern.find fn = some e) (args : Array Value) :
  (callFunc f args).run P w=(aD (e args)).run P w:=by
 simp [callFunc,hf,hb,hn,h0,h1,Sem.run,mark]
theorem Xs : Extern.allNextRows.lookup "" = none := by kernel_rfl
theorem WM : Extern.allNextRows.lookup "internal/abi.NoEscape" = none := by kernel_rfl
theorem WX : Extern.allNextRows.lookup "internal/bytealg.IndexByteString" = none := by kernel_rfl
theorem WK : Extern.allNextRows.lookup "internal/bytealg.CountString" = none := by kernel_rfl
theorem W1 : Extern.allNextRows.lookup "internal/bytealg.MakeNoZero" = none := by kernel_rfl
theorem Xa : Extern.allGenericRows.lookup "internal/abi.NoEscape" = none := by kernel_rfl
theorem WR : Extern.allGenericRows.lookup "internal/bytealg.IndexByteString" = none := by kernel_rfl
theorem W4 : Extern.allGenericRows.lookup "internal/bytealg.CountString" = none := by kernel_rfl
theorem WT : Extern.allGenericRows.lookup "internal/bytealg.MakeNoZero" = none := by kernel_rfl
theorem WY : Extern.allTypedRows.lookup "internal/abi.NoEscape" = none := by kernel_rfl
theorem WI : Extern.allTypedRows.lookup "internal/bytealg.IndexByteString" = none := by kernel_rfl
theorem WD : Extern.allTypedRows.lookup "internal/bytealg.CountString" = none := by kernel_rfl
theorem W6 : Extern.allTypedRows.lookup "internal/bytealg.MakeNoZero" = some Extern.BytealgMakeNoZero.makeNoZero := by kernel_rfl
theorem WA : Extern.allRows.lookup "internal/abi.NoEscape" = some Extern.AbiNoEscape.same := by kernel_rfl
theorem W2 : Extern.allRows.lookup "internal/bytealg.IndexByteString" = some Extern.BytealgIndexByte.indexByte := by kernel_rfl
theorem WL : Extern.allRows.lookup "internal/bytealg.CountString" = some Extern.BytealgCount.count := by kernel_rfl
theorem iZ {fn:Func} {n:String} (hn:fn.name=n) (hg:Extern.allGenericRows.lookup n=none) (ht:Extern.allTypedRows.lookup n=none) {e:Array Value->Sem Value} (hr:Extern.allRows.lookup n=some e):Extern.find fn=some e:=by
 subst hn;simp [Extern.find,hg,ht,hr]
theorem cQ {fn : Func} {n : String} (hn : fn.name = n) (ho : fn.origin = "") (h : Extern.allNextRows.lookup n = none) : Extern.findNext fn = none := by
 subst hn;simp [Extern.findNext,h,ho,Xs]
theorem u7 (c:UInt8) (l:List UInt8):∀ k,(match EY c l k with |some i=>((i:Nat):Int) |none=> -1)=if Lib.indexByte l c= -1 then -1 else Lib.indexByte l c+k:=by
 induction l with
 |nil=>intro k;rfl
 |cons b l ih=>
  intro k;unfold EY Lib.indexByte;by_cases hb:(b==c)=true
  ·simp [hb]
  ·have:=ih (k+1)
   have hge:=Lib.indexByte_ge l c;simp only [hb,if_false,Bool.false_eq_true] at this ⊢;rw [this];by_cases h1:Lib.indexByte l c= -1
   ·simp [h1]
   ·have h2:(Lib.indexByte l c== -1)=false:=by simpa using h1
    simp only [h1,h2,if_false,Bool.false_eq_true];rw [if_neg (by omega)];omega
theorem xP (c:UInt8) (l:List UInt8):Oa c l=Lib.countByte l c:=by
 induction l with
 |nil=>rfl
 |cons b l ih=>
  unfold Oa;rw [ih];unfold Lib.countByte;rw [List.count_cons];split<;>simp_all
theorem wS (ps rs rs':Array TypeId) (n:Int) (h:rs[0]? =rs'[0]?):Extern.BytealgMakeNoZero.makeNoZero ps rs #[.int .i64 n]=Extern.BytealgMakeNoZero.makeNoZero ps rs' #[.int .i64 n]:=by
 have hdef:∀ rs:Array TypeId,Extern.BytealgMakeNoZero.makeNoZero ps rs #[.int .i64 n]=(fun (o:Option TypeId)=>(do
  let some t := o | stuck "bytealg.MakeNoZero: no result type"
  let .slice elem ← underlying t | stuck "bytealg.MakeNoZero: slice type expected"
  if n < 0 || n > 2 ^ 48 then runtimePanic (.error "makeslice: len out of range")
  let cap ←choose (.appendCap n.toNat 0 elem)
  askRoom cap
  let bytes ← choose (.extern "internal/bytealg.MakeNoZero.bytes" 0)
  let a ←newRow elem (Extern.BytealgMakeNoZero.digits cap bytes #[])
  pure (.slice (some a) n.toNat cap):Sem Value)) rs[0]? :=fun _=>rfl
 rw [hdef,hdef,h]
theorem ie (hR:Rh Γ H w) {f:FuncId} {fn:Func} {args:List Value} {args':Array Value} {v:Value} (h:gQ P H fn args=some (v,H')) (hf:P.funcs[f]? =some fn) (hb:fn.body=none) (ha:aO Γ w args args'.toList):
  Good Γ H w ((callFunc f args').run P w) (.val v H'):=by
 unfold gQ at h;split at h
 ·cases h
 ·rename_i ho
  have ho : fn.origin = "" := by simpa using ho
  split at h
  ·rename_i hn
   have hn : fn.name = "internal/abi.NoEscape" := by simpa using hn
   rw [bw hf hb (by rw [hn];decide) (cQ hn ho WM) (iZ hn Xa WY WA)];split at h
   ·cases h
    obtain ⟨x',rfl,h1⟩:=ha.Af;exact ar hR h1 (ao rfl)
   ·cases h
  ·split at h
   ·rename_i hn
    have hn : fn.name = "internal/bytealg.IndexByteString" := by simpa using hn
    rw [bw hf hb (by rw [hn];decide) (cQ hn ho WX) (iZ hn WR WI W2)];split at h
    ·rename_i s c
     obtain ⟨x',y',rfl,h1,h2⟩:=ha.Cr;obtain rfl:=h1.aQ;obtain rfl:=h2.bx;have hrun:=Lib.run_indexByteString (P:=P) s c w;have hs:=u7 (UInt8.ofNat c.toNat) (bl s) 0;have:(c.toNat.toUInt8:UInt8)=UInt8.ofNat c.toNat:=rfl;have hi:(match EY (UInt8.ofNat c.toNat) (bl s) 0 with |some i=>((i:Nat):Int) |none=> -1)=Lib.indexByte s.data.toList c.toNat.toUInt8:=by
      rw [hs,this]
      show (if Lib.indexByte s.data.toList _= -1 then (-1:Int) else Lib.indexByte s.data.toList _+0)=_
      split
      ·rename_i e;exact e.symm
      ·simp
     rw [←hi] at hrun;split at h
     ·rename_i i hi'
      cases h;rw [hi'] at hrun;exact ar hR (.int _ _) (ao hrun)
     ·rename_i hi'
      cases h;rw [hi'] at hrun;exact ar hR (.int _ _) (ao hrun)
    ·cases h
   ·split at h
    ·rename_i hn
     have hn : fn.name = "internal/bytealg.CountString" := by simpa using hn
     rw [bw hf hb (by rw [hn];decide) (cQ hn ho WK) (iZ hn W4 WD WL)];split at h
     ·rename_i s c
      obtain ⟨x',y',rfl,h1,h2⟩:=ha.Cr;obtain rfl:=h1.aQ;obtain rfl:=h2.bx;have hrun:=Lib.run_countString (P:=P) s c w;cases h;rw [xP];exact ar hR (.int _ _) (ao hrun)
     ·cases h
    ·split at h
     ·rename_i hn
      have hn : fn.name = "internal/bytealg.MakeNoZero" := by simpa using hn
      split at h
      ·rename_i n t ht
       split at h
       ·rename_i e i he
        obtain ⟨hu,hi⟩:=bk he;split at h
        ·rename_i hc
         cases h;simp only [zaa,decide_eq_true_eq,beq_iff_eq] at hc;obtain ⟨⟨hn0,hnr⟩,h1⟩:=hc;have hfind:Extern.find fn=some (Extern.BytealgMakeNoZero.makeNoZero fn.params fn.resultTypes):=by
          simp [Extern.find,hn,WT,W6]
         rw [bw hf hb (by rw [hn];decide) (cQ hn ho W1) hfind];obtain ⟨x',rfl,h2⟩:=ha.Af;obtain rfl:=h2.bx;have hm:Extern.BytealgMakeNoZero.makeNoZero fn.params fn.resultTypes #[.int .i64 n]=Extern.BytealgMakeNoZero.makeNoZero fn.params #[t] #[.int .i64 n]:=by
          exact wS _ _ _ _ (by rw [ht];rfl)
         obtain ⟨m,rfl⟩:=Int.eq_ofNat_of_zero_le hn0;obtain ⟨cs,hrun,hle,_⟩:=Lib.run_makeNoZero (P:=P) w fn.params t e hu m (by have:((roomy:Nat):Int)=1099511627776:=(by decide);omega);rw [hm];obtain ⟨h3,h4⟩:=hR.drew;obtain ⟨h5,h6⟩:=gV h3 (.cells [] e 0 false false) (.cells cs e) (by
          refine ⟨cs,0,0,by rw [Ga.aA];exact heap_alloc_new,by rw [Ga.aA];simp,fun i v hv=>(by cases hv),fun x=>(by cases x),fun _=>⟨Nat.le_refl _,fun j a b=>by omega⟩,fun x=>(by cases x)⟩)
         refine ⟨_,_,_,ao hrun,?_,h5,h4.trans h6⟩;refine .bA (.inr rfl) (by simpa using hle) (.inr ⟨by simp [Ga.at,Ga.aA],⟨cs,e,(0,0),heap_alloc_new,by simp⟩⟩)
        ·cases h
       ·cases h
      ·cases h
     ·cases h
end Go.Iv
