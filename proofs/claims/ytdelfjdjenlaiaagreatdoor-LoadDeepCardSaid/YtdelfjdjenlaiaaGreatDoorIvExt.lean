/- The functions without a Go body. -/
import Derived.Test.YtdelfjdjenlaiaaGreatDoorIvOpsY
import Derived.KernelRfl
import Derived.Lib.Bytealg
import Derived.Lib.MakeNoZero
set_option linter.unusedSimpArgs false
set_option linter.unusedVariables false
namespace Go.Iv
open Go
variable {P:Program} {Γ Γ':Ga} {H H':IH} {w w':World}
theorem eY {f : FuncId} {fn : Func} (hf : P.funcs[f]? = some fn) (hb : fn.body = none) (hn : fn.name ≠ "runtime.NumGoroutine") (h0 : Extern.findNext fn = none) {e : Array Value -> Sem Value} (h1 : Extern.find fn = some e) (args : Array Value) :
  (callFunc f args).run P w=(bz (e args)).run P w:=by
 simp [callFunc,hf,hb,hn,h0,h1,Sem.run,mark]
theorem ZD : Extern.allNextRows.lookup "" = none := by kernel_rfl
theorem YE : Extern.allNextRows.lookup "internal/abi.NoEscape" = none := by kernel_rfl
theorem Yw : Extern.allNextRows.lookup "internal/bytealg.IndexByteString" = none := by kernel_rfl
theorem YR : Extern.allNextRows.lookup "internal/bytealg.CountString" = none := by kernel_rfl
theorem YY : Extern.allNextRows.lookup "internal/bytealg.MakeNoZero" = none := by kernel_rfl
theorem Y0 : Extern.allGenericRows.lookup "internal/abi.NoEscape" = none := by kernel_rfl
theorem YI : Extern.allGenericRows.lookup "internal/bytealg.IndexByteString" = none := by kernel_rfl
theorem Ym : Extern.allGenericRows.lookup "internal/bytealg.CountString" = none := by kernel_rfl
theorem YC : Extern.allGenericRows.lookup "internal/bytealg.MakeNoZero" = none := by kernel_rfl
theorem YU : Extern.allTypedRows.lookup "internal/abi.NoEscape" = none := by kernel_rfl
theorem Y5 : Extern.allTypedRows.lookup "internal/bytealg.IndexByteString" = none := by kernel_rfl
theorem Y7 : Extern.allTypedRows.lookup "internal/bytealg.CountString" = none := by kernel_rfl
theorem YP : Extern.allTypedRows.lookup "internal/bytealg.MakeNoZero" = some Extern.BytealgMakeNoZero.makeNoZero := by kernel_rfl
theorem Yj : Extern.allRows.lookup "internal/abi.NoEscape" = some Extern.AbiNoEscape.same := by kernel_rfl
theorem Yi : Extern.allRows.lookup "internal/bytealg.IndexByteString" = some Extern.BytealgIndexByte.indexByte := by kernel_rfl
theorem Y8 : Extern.allRows.lookup "internal/bytealg.CountString" = some Extern.BytealgCount.count := by kernel_rfl
theorem Cb {fn:Func} {n:String} (hn:fn.name=n) (hg:Extern.allGenericRows.lookup n=none) (ht:Extern.allTypedRows.lookup n=none) {e:Array Value->Sem Value} (hr:Extern.allRows.lookup n=some e):Extern.find fn=some e:=by
 subst hn;simp [Extern.find,hg,ht,hr]
theorem ji {fn : Func} {n : String} (hn : fn.name = n) (ho : fn.origin = "") (h : Extern.allNextRows.lookup n = none) : Extern.findNext fn = none := by
 subst hn;simp [Extern.findNext,h,ho,ZD]
theorem M6 (c:UInt8) (l:List UInt8):∀ k,(match II c l k with |some i=>((i:Nat):Int) |none=> -1)=if Lib.indexByte l c= -1 then -1 else Lib.indexByte l c+k:=by
 induction l with
 |nil=>intro k;rfl
 |cons b l ih=>
  intro k;unfold II Lib.indexByte;by_cases hb:(b==c)=true
  ·simp [hb]
  ·have:=ih (k+1)
   have hge:=Lib.indexByte_ge l c;simp only [hb,if_false,Bool.false_eq_true] at this ⊢;rw [this];by_cases h1:Lib.indexByte l c= -1
   ·simp [h1]
   ·have h2:(Lib.indexByte l c== -1)=false:=by simpa using h1
    simp only [h1,h2,if_false,Bool.false_eq_true];rw [if_neg (by omega)];omega
theorem Nw (c:UInt8) (l:List UInt8):MN c l=Lib.countByte l c:=by
 induction l with
 |nil=>rfl
 |cons b l ih=>
  unfold MN;rw [ih];unfold Lib.countByte;rw [List.count_cons];split<;>simp_all
theorem Mn (ps rs rs':Array TypeId) (n:Int) (h:rs[0]? =rs'[0]?):Extern.BytealgMakeNoZero.makeNoZero ps rs #[.int .i64 n]=Extern.BytealgMakeNoZero.makeNoZero ps rs' #[.int .i64 n]:=by
 have hdef:∀ rs:Array TypeId,Extern.BytealgMakeNoZero.makeNoZero ps rs #[.int .i64 n]=(fun (o:Option TypeId)=>(do
  let some t := o | stuck "bytealg.MakeNoZero: no result type"
  let .slice elem ← underlying t | stuck "bytealg.MakeNoZero: slice type expected"
  if n < 0 || n > 2 ^ 48 then runtimePanic (.error "makeslice: len out of range")
  let cap ←choose (.appendCap n.toNat 0 elem)
  askRoom cap
  let bytes ← choose (.extern "internal/bytealg.MakeNoZero.bytes" 0)
  let a ←newRow elem (Extern.BytealgMakeNoZero.digits cap bytes #[])
  pure (.slice (some a) n.toNat cap):Sem Value)) rs[0]? :=fun _=>rfl
 rw [hdef,hdef,h]
theorem zc (hR:Rh Γ H w) {f:FuncId} {fn:Func} {args:List Value} {args':Array Value} {v:Value} (h:gu P H fn args=some (v,H')) (hf:P.funcs[f]? =some fn) (hb:fn.body=none) (ha:cB Γ w args args'.toList):
  Good Γ H w ((callFunc f args').run P w) (.val v H'):=by
 unfold gu at h;split at h
 ·cases h
 ·rename_i ho
  have ho : fn.origin = "" := by simpa using ho
  split at h
  ·rename_i hn
   have hn : fn.name = "internal/abi.NoEscape" := by simpa using hn
   rw [eY hf hb (by rw [hn];decide) (ji hn ho YE) (Cb hn Y0 YU Yj)];split at h
   ·cases h
    obtain ⟨x',rfl,h1⟩:=ha.Ob;exact aj hR h1 (ai rfl)
   ·cases h
  ·split at h
   ·rename_i hn
    have hn : fn.name = "internal/bytealg.IndexByteString" := by simpa using hn
    rw [eY hf hb (by rw [hn];decide) (ji hn ho Yw) (Cb hn YI Y5 Yi)];split at h
    ·rename_i s c
     obtain ⟨x',y',rfl,h1,h2⟩:=ha.Qd;obtain rfl:=h1.cK;obtain rfl:=h2.ff;have hrun:=Lib.run_indexByteString (P:=P) s c w;have hs:=M6 (UInt8.ofNat c.toNat) (bl s) 0;have:(c.toNat.toUInt8:UInt8)=UInt8.ofNat c.toNat:=rfl;have hi:(match II (UInt8.ofNat c.toNat) (bl s) 0 with |some i=>((i:Nat):Int) |none=> -1)=Lib.indexByte s.data.toList c.toNat.toUInt8:=by
      rw [hs,this]
      show (if Lib.indexByte s.data.toList _= -1 then (-1:Int) else Lib.indexByte s.data.toList _+0)=_
      split
      ·rename_i e;exact e.symm
      ·simp
     rw [←hi] at hrun;split at h
     ·rename_i i hi'
      cases h;rw [hi'] at hrun;exact aj hR (.int _ _) (ai hrun)
     ·rename_i hi'
      cases h;rw [hi'] at hrun;exact aj hR (.int _ _) (ai hrun)
    ·cases h
   ·split at h
    ·rename_i hn
     have hn : fn.name = "internal/bytealg.CountString" := by simpa using hn
     rw [eY hf hb (by rw [hn];decide) (ji hn ho YR) (Cb hn Ym Y7 Y8)];split at h
     ·rename_i s c
      obtain ⟨x',y',rfl,h1,h2⟩:=ha.Qd;obtain rfl:=h1.cK;obtain rfl:=h2.ff;have hrun:=Lib.run_countString (P:=P) s c w;cases h;rw [Nw];exact aj hR (.int _ _) (ai hrun)
     ·cases h
    ·split at h
     ·rename_i hn
      have hn : fn.name = "internal/bytealg.MakeNoZero" := by simpa using hn
      split at h
      ·rename_i n t ht
       split at h
       ·rename_i e i he
        obtain ⟨hu,hi⟩:=eP he;split at h
        ·rename_i hc
         cases h;simp only [zae,decide_eq_true_eq,beq_iff_eq] at hc;obtain ⟨⟨hn0,hnr⟩,h1⟩:=hc;have hfind:Extern.find fn=some (Extern.BytealgMakeNoZero.makeNoZero fn.params fn.resultTypes):=by
          simp [Extern.find,hn,YC,YP]
         rw [eY hf hb (by rw [hn];decide) (ji hn ho YY) hfind];obtain ⟨x',rfl,h2⟩:=ha.Ob;obtain rfl:=h2.ff;have hm:Extern.BytealgMakeNoZero.makeNoZero fn.params fn.resultTypes #[.int .i64 n]=Extern.BytealgMakeNoZero.makeNoZero fn.params #[t] #[.int .i64 n]:=by
          exact Mn _ _ _ _ (by rw [ht];rfl)
         obtain ⟨m,rfl⟩:=Int.eq_ofNat_of_zero_le hn0;obtain ⟨cs,hrun,hle,_⟩:=Lib.run_makeNoZero (P:=P) w fn.params t e hu m (by have:((roomy:Nat):Int)=1099511627776:=(by decide);omega);rw [hm];obtain ⟨h3,h4⟩:=hR.drew;obtain ⟨h5,h6⟩:=we h3 (.cells [] e 0 false false) (.cells cs e) (by
          refine ⟨cs,0,0,by rw [Ga.bp];exact heap_alloc_new,by rw [Ga.bp];simp,fun i v hv=>(by cases hv),fun x=>(by cases x),fun _=>⟨zai _,fun j a b=>by omega⟩,fun x=>(by cases x)⟩)
         refine ⟨_,_,_,ai hrun,?_,h5,h4.trans h6⟩;refine .dV (.inr rfl) (by simpa using hle) (.inr ⟨by simp [Ga.at,Ga.bp],⟨cs,e,(0,0),heap_alloc_new,by simp⟩⟩)
        ·cases h
       ·cases h
      ·cases h
     ·cases h
end Go.Iv
