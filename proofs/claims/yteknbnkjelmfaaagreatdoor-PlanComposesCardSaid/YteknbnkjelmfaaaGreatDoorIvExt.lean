/- The functions without a Go body. -/
import Derived.Test.YteknbnkjelmfaaaGreatDoorIvOpsY
import Derived.KernelRfl
import Derived.Lib.Bytealg
import Derived.Lib.MakeNoZero
set_option linter.unusedSimpArgs false
set_option linter.unusedVariables false
namespace Go.Iv
open Go
variable {P:Program} {Γ Γ':Ga} {H H':IH} {w w':World}
theorem eL {f : FuncId} {fn : Func} (hf : P.funcs[f]? = some fn) (hb : fn.body = none) (hn : fn.name ≠ "runtime.NumGoroutine") (h0 : Extern.findNext fn = none) {e : Array Value -> Sem Value} (h1 : Extern.find fn = some e) (args : Array Value) :
  (callFunc f args).run P w=(bg (e args)).run P w:=by
 simp [callFunc,hf,hb,hn,h0,h1,Sem.run,mark]
theorem Vn : Extern.allNextRows.lookup "" = none := by kernel_rfl
theorem UE : Extern.allNextRows.lookup "internal/abi.NoEscape" = none := by kernel_rfl
theorem UA : Extern.allNextRows.lookup "internal/bytealg.IndexByteString" = none := by kernel_rfl
theorem Uq : Extern.allNextRows.lookup "internal/bytealg.CountString" = none := by kernel_rfl
theorem UM : Extern.allNextRows.lookup "internal/bytealg.MakeNoZero" = none := by kernel_rfl
theorem Um : Extern.allGenericRows.lookup "internal/abi.NoEscape" = none := by kernel_rfl
theorem UQ : Extern.allGenericRows.lookup "internal/bytealg.IndexByteString" = none := by kernel_rfl
theorem UU : Extern.allGenericRows.lookup "internal/bytealg.CountString" = none := by kernel_rfl
theorem Ub : Extern.allGenericRows.lookup "internal/bytealg.MakeNoZero" = none := by kernel_rfl
theorem Uf : Extern.allTypedRows.lookup "internal/abi.NoEscape" = none := by kernel_rfl
theorem UB : Extern.allTypedRows.lookup "internal/bytealg.IndexByteString" = none := by kernel_rfl
theorem Ut : Extern.allTypedRows.lookup "internal/bytealg.CountString" = none := by kernel_rfl
theorem UJ : Extern.allTypedRows.lookup "internal/bytealg.MakeNoZero" = some Extern.BytealgMakeNoZero.makeNoZero := by kernel_rfl
theorem UH : Extern.allRows.lookup "internal/abi.NoEscape" = some Extern.AbiNoEscape.same := by kernel_rfl
theorem UT : Extern.allRows.lookup "internal/bytealg.IndexByteString" = some Extern.BytealgIndexByte.indexByte := by kernel_rfl
theorem UG : Extern.allRows.lookup "internal/bytealg.CountString" = some Extern.BytealgCount.count := by kernel_rfl
theorem Ar {fn:Func} {n:String} (hn:fn.name=n) (hg:Extern.allGenericRows.lookup n=none) (ht:Extern.allTypedRows.lookup n=none) {e:Array Value->Sem Value} (hr:Extern.allRows.lookup n=some e):Extern.find fn=some e:=by
 subst hn;simp [Extern.find,hg,ht,hr]
theorem iV {fn : Func} {n : String} (hn : fn.name = n) (ho : fn.origin = "") (h : Extern.allNextRows.lookup n = none) : Extern.findNext fn = none := by
 subst hn;simp [Extern.findNext,h,ho,Vn]
theorem Jk (c:UInt8) (l:List UInt8):∀ k,(match s9 c l k with |some i=>((i:Nat):Int) |none=> -1)=if Lib.indexByte l c= -1 then -1 else Lib.indexByte l c+k:=by
 induction l with
 |nil=>intro k;rfl
 |cons b l ih=>
  intro k;unfold s9 Lib.indexByte;by_cases hb:(b==c)=true
  .simp [hb]
  .have:=ih (k+1)
   have hge:=Lib.indexByte_ge l c;simp only [hb,if_false,Bool.false_eq_true] at this ⊢
   grind
theorem H9 (c:UInt8) (l:List UInt8):J4 c l=Lib.countByte l c:=by
 induction l with
 |nil=>rfl
 |cons b l ih=>
  unfold J4;rw [ih];unfold Lib.countByte
  grind
theorem Jy (ps rs rs':Array TypeId) (n:Int) (h:rs[0]? =rs'[0]?):Extern.BytealgMakeNoZero.makeNoZero ps rs #[.int .i64 n]=Extern.BytealgMakeNoZero.makeNoZero ps rs' #[.int .i64 n]:=by
 have hdef:∀ rs:Array TypeId,Extern.BytealgMakeNoZero.makeNoZero ps rs #[.int .i64 n]=(fun (o:Option TypeId)=>(do
  let some t := o | stuck "bytealg.MakeNoZero: no result type"
  let .slice elem ← underlying t | stuck "bytealg.MakeNoZero: slice type expected"
  if n < 0 || n > 2 ^ 48 then runtimePanic (.error "makeslice: len out of range")
  let cap ←choose (.appendCap n.toNat 0 elem)
  askRoom cap
  let bytes ← choose (.extern "internal/bytealg.MakeNoZero.bytes" 0)
  let a ←newRow elem (Extern.BytealgMakeNoZero.digits cap bytes #[])
  pure (.slice (some a) n.toNat cap):Sem Value)) rs[0]? :=fun _=>rfl
 grind
theorem wC (hR:Rh Γ H w) {f:FuncId} {fn:Func} {args:List Value} {args':Array Value} {v:Value} (h:gz P H fn args=some (v,H')) (hf:P.funcs[f]? =some fn) (hb:fn.body=none) (ha:bX Γ w args args'.toList):
  Good Γ H w ((callFunc f args').run P w) (.val v H'):=by
 unfold gz at h;split at h
 .cases h
 .rename_i ho
  have ho : fn.origin = "" := by simpa using ho
  split at h
  .rename_i hn
   have hn : fn.name = "internal/abi.NoEscape" := by simpa using hn
   rw [eL hf hb (by rw [hn];decide) (iV hn ho UE) (Ar hn Um Uf UH)];split at h
   .cases h
    obtain ⟨x',rfl,h1⟩:=ha.J5;exact ai hR h1 (ah rfl)
   .cases h
  .split at h
   .rename_i hn
    have hn : fn.name = "internal/bytealg.IndexByteString" := by simpa using hn
    rw [eL hf hb (by rw [hn];decide) (iV hn ho UA) (Ar hn UQ UB UT)];split at h
    .rename_i s c
     obtain ⟨x',y',rfl,h1,h2⟩:=ha.L6;obtain rfl:=h1.cQ;obtain rfl:=h2.eU;have hrun:=Lib.run_indexByteString (P:=P) s c w;have hs:=Jk (UInt8.ofNat c.toNat) (bl s) 0;have:(c.toNat.toUInt8:UInt8)=UInt8.ofNat c.toNat:=rfl;have hi:(match s9 (UInt8.ofNat c.toNat) (bl s) 0 with |some i=>((i:Nat):Int) |none=> -1)=Lib.indexByte s.data.toList c.toNat.toUInt8:=by
      rw [hs,this]
      show (if Lib.indexByte s.data.toList _= -1 then (-1:Int) else Lib.indexByte s.data.toList _+0)=_
      split
      .omega
      .simp
     rw [←hi] at hrun;split at h
     .rename_i i hi'
      cases h;rw [hi'] at hrun;exact ai hR (.int _ _) (ah hrun)
     .rename_i hi'
      cases h;rw [hi'] at hrun;exact ai hR (.int _ _) (ah hrun)
    .cases h
   .split at h
    .rename_i hn
     have hn : fn.name = "internal/bytealg.CountString" := by simpa using hn
     rw [eL hf hb (by rw [hn];decide) (iV hn ho Uq) (Ar hn UU Ut UG)];split at h
     .rename_i s c
      obtain ⟨x',y',rfl,h1,h2⟩:=ha.L6;obtain rfl:=h1.cQ;obtain rfl:=h2.eU;have hrun:=Lib.run_countString (P:=P) s c w;cases h;rw [H9];exact ai hR (.int _ _) (ah hrun)
     .cases h
    .split at h
     .rename_i hn
      have hn : fn.name = "internal/bytealg.MakeNoZero" := by simpa using hn
      split at h
      .rename_i n t ht
       split at h
       .rename_i e i he
        obtain ⟨hu,hi⟩:=fU he;split at h
        .rename_i hc
         cases h;simp only [zae,decide_eq_true_eq,beq_iff_eq] at hc;obtain ⟨⟨hn0,hnr⟩,h1⟩:=hc;have hfind:Extern.find fn=some (Extern.BytealgMakeNoZero.makeNoZero fn.params fn.resultTypes):=by
          simp [Extern.find,hn,Ub,UJ]
         rw [eL hf hb (by rw [hn];decide) (iV hn ho UM) hfind];obtain ⟨x',rfl,h2⟩:=ha.J5;obtain rfl:=h2.eU;have hm:Extern.BytealgMakeNoZero.makeNoZero fn.params fn.resultTypes #[.int .i64 n]=Extern.BytealgMakeNoZero.makeNoZero fn.params #[t] #[.int .i64 n]:=by
          exact Jy _ _ _ _ (by rw [ht];rfl)
         obtain ⟨m,rfl⟩:=Int.eq_ofNat_of_zero_le hn0;obtain ⟨cs,hrun,hle,_⟩:=Lib.run_makeNoZero (P:=P) w fn.params t e hu m (by have:((roomy:Nat):Int)=1099511627776:=(by decide);omega);rw [hm];obtain ⟨h3,h4⟩:=hR.drew;obtain ⟨h5,h6⟩:=ug h3 (.cells [] e 0 false false) (.cells cs e) (by
          refine ⟨cs,0,0,by rw [Ga.bh];exact heap_alloc_new,by simp_all,fun i v hv=>(by cases hv),fun x=>(by cases x),fun _=>⟨zal _,fun j a b=>by omega⟩,fun x=>(by cases x)⟩)
         refine ⟨_,_,_,ah hrun,?_,h5,h4.trans h6⟩;refine .dK (.inr rfl) (by simpa using hle) (.inr ⟨by simp [Ga.at,Ga.bh],⟨cs,e,(0,0),heap_alloc_new,by simp⟩⟩)
        .cases h
       .cases h
      .cases h
     .cases h
end Go.Iv
