/- What the evaluator says of code is so: code, loops, ranges over functions, calls, deferred calls. -/
import Derived.Test.YtdelfjdjenlaiaaGreatDoorIvCode
set_option linter.unusedSimpArgs false
set_option linter.unusedVariables false
namespace Go.Iv
open Go
variable {P:Program} {Γ Γ':Ga} {H H':IH} {w w':World} {F:Fence} {n:Nat} {Q:Exit->Act->World->Prop} {a:Act}
def lK (P:Program) (sf:Self):Prop:=∀ {fi:FI} {ro:Option Nat} {id:Nat} {ops:Array Oper} {T:En} {H:IH} {D:List Deferred} {r:X×En×IH×List Deferred} {Γ:Ga} {w:World} {a:Act},
 lI P sf fi ops T H D=some r->pw Γ ro->St Γ H w fi T D a->(Code.region id ops true).wpIn (FO Γ ro) 0 P (lz Γ H w fi r) a w
theorem ft {b:Frame} {a:Act} {k:List Item} {cs:List Frame} {w:World} {c:Code}:step P (lone (b.atR a (.code (.scope c)::k)) cs w)= .next (lone (b.atR a (.code c:: .inScope c::k)) cs w):=
 step_lone_go (by simp [stepG,stepG.exec,Frame.atR])
theorem zb {b:Frame} {a:Act} {k:List Item} {cs:List Frame} {w:World} {c:Code}:step P (lone (b.atR a (.inScope c::k)) cs w)= .next (lone (b.atR a k) cs w):=
 step_lone_go (by simp [stepG,stepG.exec,Frame.atR])
theorem Io {c:Code} (h:c.wpIn F n P Q a w) (hg:∀ l a w,¬ Q (.goto l) a w):(Code.scope c).wpIn F n P Q a w:=by
 intro b k cs hro hb hr;have h0:(lone (b.atR a (.code (.scope c)::k)) cs w).fenced P F:=fenced_calm hb hr rfl;obtain ⟨e,a₁,w₁,hq,harr⟩:=h b (.inScope c::k) cs hro hb hr;cases e with
 |normal=>exact ⟨.normal,a₁,w₁,hq,.head h0 ft (StepsIn.trans harr (.one (fenced_calm hb hr rfl) zb))⟩
 |exit id=>
  have hx:exitTo id (.inScope c::k)=exitTo id k:=by simp [exitTo]
  exact ⟨_,a₁,w₁,hq,fun k' hk=> .head h0 ft (harr.1 k' (by rw [hx];exact hk)),
   fun hr' hk=>let ⟨k₁,h1,h2⟩:=harr.2 hr' (by rw [hx];exact hk);⟨k₁,h1,.head h0 ft h2⟩⟩
 |goto l=>exact absurd hq (hg l a₁ w₁)
 |ret=>exact ⟨_,a₁,w₁,hq,.of_steps (.one h0 ft) harr⟩
 |panic ch=>exact ⟨_,a₁,w₁,hq,.of_steps (.one h0 ft) harr⟩
 |outgrown=>exact ⟨_,a₁,w₁,hq,.of_steps (.one h0 ft) harr⟩
theorem TN {c:Code} (h:c.wpIn F n P (Exit.then (FM F n P c Q) Q) a w):FM F n P c Q a w:=by
 intro b k cs hro hb hr;obtain ⟨e,a₁,w₁,hq,harr⟩:=h b (.inLoop c::k) cs hro hb hr;cases e with
 |normal=>
  obtain ⟨e₂,a₂,w₂,hq₂,harr₂⟩:=hq b k cs hro hb hr;exact ⟨e₂,a₂,w₂,hq₂,.of_steps (StepsIn.trans harr (.one (fenced_calm hb hr rfl) stepR_inLoop)) harr₂⟩
 |exit id=>exact ⟨_,a₁,w₁,hq,.pass (x:= .inLoop c) rfl (fun _ _=> .inl (by simp)) harr⟩
 |goto l=>exact ⟨_,a₁,w₁,hq,.pass (x:= .inLoop c) rfl (fun _ _=> .inl (by simp)) harr⟩
 |ret=>exact ⟨_,a₁,w₁,hq,.pass (x:= .inLoop c) rfl (fun _ _=> .inl (by simp)) harr⟩
 |panic ch=>exact ⟨_,a₁,w₁,hq,.pass (x:= .inLoop c) rfl (fun _ _=> .inl (by simp)) harr⟩
 |outgrown=>exact ⟨_,a₁,w₁,hq,.pass (x:= .inLoop c) rfl (fun _ _=> .inl (by simp)) harr⟩
theorem CU {c:Code} (h:FM F n P c Q a w):(Code.loop c).wpIn F n P Q a w:=fun b k cs hro hb hr=>
 let ⟨e,a',w',hq,harr⟩:=h b k cs hro hb hr
 ⟨e,a',w',hq,.of_steps (.one (fenced_calm hb hr rfl) stepR_loop) harr⟩
theorem L6 {c:Code} {Q':Exit->Act->World->Prop} (h:FM F n P c Q a w) (hq:∀ e a w,Q e a w->Q' e a w):FM F n P c Q' a w:=
 fun b k cs hro hb hr=>let ⟨e,a',w',q,r⟩:=h b k cs hro hb hr;⟨e,a',w',hq _ _ _ q,r⟩
theorem vt {sf:Self} (S:Sound P sf) {ro:Option Nat} {l:Nat} {g:FuncId} {args:List Value} {args':Array Value} {Γ0:Ga} {H0:IH} {w0:World} {fi:FI} {T:En} {D:List Deferred} {e:End} {H1:IH} {r:X×En×IH×List Deferred}
  (hc:sf.call g args H=some (e,H1)) (hst:St Γ H w fi T D a) (hE:Ext Γ0 H0 w0 Γ H w) (ha:cB Γ w args args'.toList) (hd:Γ.bj l) (hl:dO<=l)
  (hr:(match (some (e,H1):Option (End×IH)) with
   |some (.returned _,H)=>
    match H.get l with
    |some (.loop st pd fi2 E2 ps dZ body)=>
     if st==LoopState.busy then none else
     let H:=H.put l (.loop .exhausted pd fi2 E2 ps dZ body)
     match pd with
     |none=>some (.normal,T,H,D)
     |some .ret=>some (.ret,T,H,D)
     |some (.exit id)=>some (.exit id,T,H,D)
     |_=>none
    |_=>none
   |some (.panicked v,H)=>some (.panic v,T,H,D)
   |none=>none)=some r):
  CallsIn (FO Γ ro) 0 P g args' w (rangePost (FO Γ ro) 0 P (Γ.φ l).1 (lz Γ0 H0 w0 fi r) a):=by
 refine G5 ((S.call hc hst.rh ha).mono ?_);rintro e1 w1 ⟨Γ1,he,hR1,hE1⟩;have hle:=hE1.le hst.rh;cases he with
 |returned hv=>
  simp only at hr;split at hr
  ·rename_i st pd fi2 E2 ps dZ body hl1
   split at hr
   ·cases hr
   ·rename_i hst'
    obtain ⟨rc,hrc,hs,hp, -, -, -, -,hR2,hE2⟩:=qK hR1 hl1 hl .exhausted pd;have hend:=run_endLoop (P:=P) hrc (by rw [hs];intro e;exact hst' (by rw [e];rfl));rw [hp] at hend;rw [hle.φ l hd] at hend;refine ⟨pd,_,hend,?_⟩;rw [hle.φ l hd] at hR2 hE2;have hfin:=(hst.ext hR1 hE1).ext hR2 hE2;have hEE:=(hE.trans hE1).trans hE2;cases pd with
    |none=>simp only at hr ⊢;cases hr;exact ⟨Γ1,.normal,hfin,hEE⟩
    |some c=>
     simp only at hr ⊢;cases c with
     |ret=>cases hr;exact wpIn_ret ⟨Γ1,.ret,hfin,hEE⟩
     |exit id=>cases hr;exact wpIn_exit ⟨Γ1,.exit id,hfin,hEE⟩
     |_=>cases hr
  ·cases hr
 |panicked hv=>
  cases hr;exact ⟨Γ1,.panic hv,hst.ext hR1 hE1,hE.trans hE1⟩
theorem lz.UC {fi:FI} {r:X×En×IH×List Deferred} {l:Nat}:¬ lz Γ H w fi r (.goto l) a w':=by
 obtain ⟨x,T,H1,D⟩:=r;rintro ⟨Γ1,hx, -, -⟩;simp only at hx;cases hx
theorem rH {l₀:Nat} {r₀:Loop} (h:w.heap[l₀]? =some (.loop r₀)) (fn:FuncId) (tmps:Array Value) (ps:Array Tmp) (assign body:Code):
  (Instr.enterLoop fn tmps ps assign body (some l₀)).run P w=
   .ok (w.heap.size,[]) (w.alloc (.loop { state:= .ready,pending:=none,fn,tmps,params:=ps,assign,body,defers:=r₀.defers })):=by
 unfold Instr.enterLoop;simp only [Sem.run_bind,run_getLoop h,run_newObj_alloc,Result.andThen,Sem.run_pure]
theorem kY (hng:jE P=true) {f:FuncId} {fn:Func} {c:Code} (hf:P.funcs[f]? =some fn) (hb:fn.body=some c) (cap args:Array Value) (w:World):
  (invoke (.fn (.func f) cap) args).run P w= .ok (.enter f (args++cap)) w:=by
 simp only [invoke];exact mD hng hf hb _ _
def Enters (P:Program) (sf:Self):Prop:=∀ {f:FuncId} {args:List Value} {H:IH} {e:End} {H':IH},sf.call f args H=some (e,H')->∃ fn c,P.funcs[f]? =some fn/\fn.body=some c
theorem uq {sf:Self} (S:Sound P sf) (hen:Enters P sf) (hng:jE P=true) {ro:Option Nat} {f:Operand} {ps:Array Tmp} {dZ body:Code} {fi:FI} {T:En} {D:List Deferred} {r:X×En×IH×List Deferred}
  (h:aA P sf fi ro (.rangeFunc f ps dZ body) T H D=some r) (hro:pw Γ ro) (hst:St Γ H w fi T D a):(Code.rangeFunc f ps dZ body).wpIn (FO Γ ro) 0 P (lz Γ H w fi r) a w:=by
 unfold aA at h;split at h
 ·cases h
 ·rename_i hla
  have hf:=VR.dC (a:=a) hst.rh hst.tmps f;split at h
  ·rename_i g first captured hv
   rw [hv] at hf;obtain ⟨a1,c1,hfe,h1,h2⟩:=hf.KD rfl;have hres:∀ (L:Nat) (w1:World),(resolve a.eval (rangeCall f L) 0).run P w1= .ok { target:= .fn (.func g) c1,args:=a1++#[.func (.yield L) #[] #[]] } w1:=by
    intro L w1;have e:resolve a.eval (rangeCall f L) 0=Deferred.ofValue (a.eval f) (#[Operand.const (.func (.yield L) #[] #[])].map a.eval):=rfl;rw [e,hfe];simp [Deferred.ofValue,Act.eval]
   simp only at h;cases ro with
   |none=>
    simp only at h;cases hc:sf.call g (first.toList++ [Value.func (.yield (H.n+1)) #[] #[]]++captured.toList) ((H.new (.mf true)).new (.loop .ready none fi T ps.toList dZ body)) with
    |none=>rw [hc] at h;cases h
    |some p=>
     obtain ⟨e,H1⟩:=p;rw [hc] at h;obtain ⟨fn1,cd,hfn1,hbd⟩:=hen hc;refine wpIn_rangeFunc fun fn _=>?_
     obtain ⟨hR1,hE1⟩:=hst.rh.new (.mf true) (.deferred (some [])) (by
      show (w.alloc _).heap[_]? =_
      rw [Ga.bp];exact heap_alloc_new)
     have hst1:=hst.ext hR1 hE1;obtain ⟨hR2,hE2⟩:=hR1.new (.loop .ready none fi T ps.toList dZ body) (.loop { state:= .ready,pending:=none,fn,tmps:=a.tmps,params:=ps,assign:=dZ,body,defers:=w.heap.size }) (by
      refine ⟨fn,a.tmps,w.heap.size,?_,?_⟩
      ·rw [Ga.bp];exact heap_alloc_new
      ·exact hst1.tmps.mono (Ga.le_next fun x=>by have:=hR1.bj _ x;omega) (.alloc _ _))
     have hst2:=hst1.ext hR2 hE2;have hE:=hE1.trans hE2;have hle:=hE.le hst.rh;have hl:((Ga.next (Γ.next H.n (w.heap.size,0)) (H.new (.mf true)).n ((w.alloc (.deferred (some []))).heap.size,0)).φ (H.n+1)).1=w.heap.size+1:=by
      have:(H.new (.mf true)).n=H.n+1:=by simp
      rw [←this,Ga.bp];simp
     have hd1:(Ga.next (Γ.next H.n (w.heap.size,0)) (H.new (.mf true)).n ((w.alloc (.deferred (some []))).heap.size,0)).bj (H.n+1):= .inr (by simp);refine ⟨w.heap.size+1,[{ target:= .collected w.heap.size,args:=#[] }],_,_,_,g,a1++#[.func (.yield (w.heap.size+1)) #[] #[]]++c1,_,run_enterLoop_outer _ _ _ _ _,hres _ _,fun f' _=>yw _ f',kY hng hfn1 hbd _ _ _,mw _ _,?_⟩
     ·rw [←hl]
      refine vt (ro:=none) (a:={ a with defers:={ target:= .collected w.heap.size,args:=#[] }::a.defers }) S hc ⟨hst2.rh,hst2.tmps,.cons (.inl ⟨H.n,rfl,.inl (.inr rfl),?_⟩) hst2.defs⟩ hE ?_ hd1 ?_ h
      ·have:((Ga.next (Γ.next H.n (w.heap.size,0)) (H.new (.mf true)).n ((w.alloc (.deferred (some []))).heap.size,0)).φ H.n).1=w.heap.size:=by
        simp [Ga.next]
       rw [this]
      ·simpa using ((h1.mono hle hE.same).append (.cons (.yield hd1) .nil)).append (h2.mono hle hE.same)
      ·have:=hst.rh.ro;omega
   |some l0=>
    simp only at h;cases hc:sf.call g (first.toList++ [Value.func (.yield H.n) #[] #[]]++captured.toList) (H.new (.loop .ready none fi T ps.toList dZ body)) with
    |none=>rw [hc] at h;cases h
    |some p=>
     obtain ⟨e,H1⟩:=p;rw [hc] at h;obtain ⟨fn1,cd,hfn1,hbd⟩:=hen hc;obtain ⟨r0,hr0⟩:∃ r0,w.heap[(Γ.φ l0).1]? =some (.loop r0):=by
      unfold rl at hla;cases hb:H.get l0 with
      |none=>simp [hb] at hla
      |some o=>
       cases o with
       |loop st pd fi' T' ps' asg' body'=>obtain ⟨fn,tm,df,h3, -⟩:=hst.rh.obj _ _ hb;exact ⟨_,h3⟩
       |_=>simp [hb] at hla
     refine wpIn_rangeFunc fun fn _=>?_
     obtain ⟨hR1,hE⟩:=hst.rh.new (.loop .ready none fi T ps.toList dZ body) (.loop { state:= .ready,pending:=none,fn,tmps:=a.tmps,params:=ps,assign:=dZ,body,defers:=r0.defers }) (by
      refine ⟨fn,a.tmps,r0.defers,?_,?_⟩
      ·rw [Ga.bp];exact heap_alloc_new
      ·exact hst.tmps.mono (Ga.le_next fun x=>by have:=hst.rh.bj _ x;omega) (.alloc _ _))
     have hst1:=hst.ext hR1 hE;have hle:=hE.le hst.rh;have hd1:(Γ.next H.n (w.heap.size,0)).bj H.n:= .inr rfl;refine ⟨w.heap.size,[],_,_,_,g,a1++#[.func (.yield w.heap.size) #[] #[]]++c1,_,rH hr0 _ _ _ _ _,hres _ _,fun f' _=>yw _ f',kY hng hfn1 hbd _ _ _,mw _ _,?_⟩
     ·have:=vt (ro:=some l0) (l:=H.n) (args':=a1++#[.func (.yield w.heap.size) #[] #[]]++c1) S hc hst1 hE (by
       have hy:VR (Γ.next H.n (w.heap.size,0)) (w.alloc (.loop { state:= .ready,pending:=none,fn,tmps:=a.tmps,params:=ps,assign:=dZ,body,defers:=r0.defers })) (.func (.yield H.n) #[] #[]) (.func (.yield w.heap.size) #[] #[]):=by
        have:=VR.yield (w:=w.alloc (.loop { state:= .ready,pending:=none,fn,tmps:=a.tmps,params:=ps,assign:=dZ,body,defers:=r0.defers })) hd1;simpa [Ga.bp] using this
       simpa using ((h1.mono hle hE.same).append (.cons hy .nil)).append (h2.mono hle hE.same)) hd1 hst.rh.ro h
      rw [Ba hle hro,Ga.bp] at this;exact this
  ·cases h
end Go.Iv
/- What the evaluator says is so: code and calls. -/
namespace Go.Iv
open Go
variable {P:Program} {Γ Γ':Ga} {H H':IH} {w w':World} {a:Act}
theorem fK {sf:Self} (S:Sound P sf) (hen:Enters P sf) (hdr:lK P sf) (hng:jE P=true) {fi:FI} {ro:Option Nat} (c:Code):
  ∀ {T:En} {H:IH} {D:List Deferred} {r:X×En×IH×List Deferred} {Γ:Ga} {w:World} {a:Act},
  aA P sf fi ro c T H D=some r->pw Γ ro->St Γ H w fi T D a->c.wpIn (FO Γ ro) 0 P (lz Γ H w fi r) a w/\∀ c',c= .loop c'->FM (FO Γ ro) 0 P c' (lz Γ H w fi r) a w:=by
 induction c with
 |skip=>intro T H D r Γ w a h hro hst;cases h;exact ⟨wpIn_skip ⟨Γ,.normal,hst,.refl Γ H w⟩,fun c' e=>by cases e⟩
 |label l=>intro T H D r Γ w a h hro hst;cases h;exact ⟨wpIn_label ⟨Γ,.normal,hst,.refl Γ H w⟩,fun c' e=>by cases e⟩
 |exit id=>intro T H D r Γ w a h hro hst;cases h;exact ⟨wpIn_exit ⟨Γ,.exit id,hst,.refl Γ H w⟩,fun c' e=>by cases e⟩
 |ret=>intro T H D r Γ w a h hro hst;cases h;exact ⟨wpIn_ret ⟨Γ,.ret,hst,.refl Γ H w⟩,fun c' e=>by cases e⟩
 |goto l=>intro T H D r Γ w a h hro hst;cases h
 |refuse s=>intro T H D r Γ w a h hro hst;cases h
 |region id ops draw=>
  intro T H D r Γ w a h hro hst;refine ⟨?_,fun c' e=>by cases e⟩;cases draw with
  |false=>exact wpIn_region (Hu S hng _ _ _ _ _ _ _ _ _ (Bz ops) h hro ⟨hst.rh,hst.tmps.reset,hst.defs⟩ fun _ _ _ h=>h)
  |true=>exact hdr h hro ⟨hst.rh,hst.tmps.reset,hst.defs⟩
 |scope c ih=>
  intro T H D r Γ w a h hro hst;exact ⟨Io (ih h hro hst).1 fun l a w=>lz.UC,fun c' e=>by cases e⟩
 |rangeFunc f ps dZ body _ _=>
  intro T H D r Γ w a h hro hst;exact ⟨uq S hen hng h hro hst,fun c' e=>by cases e⟩
 |cond c x y ihx ihy=>
  intro T H D r Γ w a h hro hst;refine ⟨?_,fun c' e=>by cases e⟩;have hc:=VR.dC (a:=a) hst.rh hst.tmps c;unfold aA at h;split at h
  ·rename_i e;rw [e] at hc;exact wpIn_cond_true hc.By (ihx h hro hst).1
  ·rename_i e;rw [e] at hc;exact wpIn_cond_false hc.By (ihy h hro hst).1
  ·cases h
 |seq x y ihx ihy=>
  intro T H D r Γ w a h hro hst;refine ⟨wpIn_seq ?_,fun c' e=>by cases e⟩;unfold aA at h;cases hx:aA P sf fi ro x T H D with
  |none=>rw [hx] at h;cases h
  |some rx=>
   rw [hx] at h;obtain ⟨ex,T1,H1,D1⟩:=rx;refine wpIn_mono (ihx hx hro hst).1 ?_;rintro e1 a1 w1 ⟨Γ1,hx1,hst1,hE1⟩;simp only at hx1 hst1 hE1;cases hx1 with
   |normal=>
    simp only at h;have hle:=hE1.le hst.rh;have:=(ihy h (hro.mono hle) hst1).1;rw [Ba hle hro] at this;exact wpIn_mono this fun e a w hp=>hp.after hE1
   |exit id=>simp only at h;cases h;exact ⟨Γ1,.exit id,hst1,hE1⟩
   |ret=>simp only at h;cases h;exact ⟨Γ1,.ret,hst1,hE1⟩
   |panic hv=>simp only at h;cases h;exact ⟨Γ1,.panic hv,hst1,hE1⟩
 |block id c ih=>
  intro T H D r Γ w a h hro hst;refine ⟨wpIn_block ?_,fun c' e=>by cases e⟩;unfold aA at h;cases hx:aA P sf fi ro c T H D with
  |none=>rw [hx] at h;cases h
  |some rx=>
   rw [hx] at h;obtain ⟨ex,T1,H1,D1⟩:=rx;refine wpIn_mono (ih hx hro hst).1 ?_;rintro e1 a1 w1 ⟨Γ1,hx1,hst1,hE1⟩;simp only at hx1 hst1 hE1;cases hx1 with
   |normal=>simp only at h;cases h;exact ⟨Γ1,.normal,hst1,hE1⟩
   |exit j=>
    simp only at h;simp only [Exit.inBlock];split at h
    ·rename_i e;cases h;rw [if_pos e];exact ⟨Γ1,.normal,hst1,hE1⟩
    ·rename_i e;cases h;rw [if_neg e];exact ⟨Γ1,.exit j,hst1,hE1⟩
   |ret=>simp only at h;cases h;exact ⟨Γ1,.ret,hst1,hE1⟩
   |panic hv=>simp only at h;cases h;exact ⟨Γ1,.panic hv,hst1,hE1⟩
 |loop c ih=>
  intro T H D r Γ w a h hro hst;have key:FM (FO Γ ro) 0 P c (lz Γ H w fi r) a w:=by
   refine TN ?_;unfold aA at h;cases hx:aA P sf fi ro c T H D with
   |none=>rw [hx] at h;cases h
   |some rx=>
    rw [hx] at h;obtain ⟨ex,T1,H1,D1⟩:=rx;refine wpIn_mono (ih hx hro hst).1 ?_;rintro e1 a1 w1 ⟨Γ1,hx1,hst1,hE1⟩;simp only at hx1 hst1 hE1;cases hx1 with
    |normal=>
     simp only at h;have hle:=hE1.le hst.rh;have:=S.loop h (hro.mono hle) hst1;rw [Ba hle hro] at this;exact L6 this fun e a w hp=>hp.after hE1
    |exit id=>simp only at h;cases h;exact ⟨Γ1,.exit id,hst1,hE1⟩
    |ret=>simp only at h;cases h;exact ⟨Γ1,.ret,hst1,hE1⟩
    |panic hv=>simp only at h;cases h;exact ⟨Γ1,.panic hv,hst1,hE1⟩
  exact ⟨CU key,fun c' e=>by cases e;exact key⟩
end Go.Iv
/- What the evaluator says of calls is so. -/
namespace Go.Iv
open Go
variable {P:Program} {Γ Γ':Ga} {H H':IH} {w w':World} {a:Act}
def wR (tm:Array Value):ResultVar->Sem Value
 | .tmp t=>pure (tm.getD t undef)
 | .cell a t=>do loadVar t (←asAddr (tm.getD a undef))
theorem CZ (hR:Rh Γ H w) {fi:FI} {T:En} {tm:Array Value} (hT:TR Γ w fi T tm) {rv:ResultVar} {v:Value} (h:gq P fi T H rv=some v):
  ∃ v',(wR tm rv).run P w= .ok v' w/\VR Γ w v v':=by
 unfold gq at h;have hg:=hT.get;split at h
 ·rename_i t
  cases h;exact ⟨_,rfl,hg t⟩
 ·rename_i a t
  have ha:=hg a;split at h
  ·rename_i b off e
   rw [e] at ha;obtain ⟨b1,o1,e1,hd,he⟩:=ha.oy;cases e1;obtain ⟨v',h1,h2⟩:=zR (P:=P) hR h;exact ⟨v',by simp [wR,asAddr,he,h1],h2⟩
  ·cases h
theorem OM (hR:Rh Γ H w) {fi:FI} {T:En} {tm:Array Value} (hT:TR Γ w fi T tm):∀ {l:List ResultVar} {vs:List Value},l.mapM (gq P fi T H)=some vs->
  ∃ vs',(l.mapM (wR tm)).run P w= .ok vs' w/\cB Γ w vs vs':=by
 intro l
 induction l with
 |nil=>intro vs h;simp at h;subst h;exact ⟨[],by simp,.nil⟩
 |cons r l ih=>
  intro vs h;simp only [List.mapM_cons,Option.bind_eq_bind,Option.bind_eq_some_iff,Option.pure_def,Option.some.injEq] at h;obtain ⟨v,h1,vs1,h2,rfl⟩:=h;obtain ⟨v',h3,h4⟩:=CZ (P:=P) hR hT h1;obtain ⟨vs',h5,h6⟩:=ih h2;exact ⟨v'::vs',by simp [List.mapM_cons,h3,h5],.cons h4 h6⟩
theorem tC (hR:Rh Γ H w) {fn:Func} {fi:FI} {T:En} {tm:Array Value} (hT:TR Γ w fi T tm) {v:Value} (h:ey P fi fn T H=some v):
  ∃ v',(results fn tm).run P w= .ok v' w/\VR Γ w v v':=by
 have hdef:results fn tm=(do
   let vs ←fn.results.mapM (wR tm)
   pure (if h:vs.size=1 then vs[0] else .tuple vs)):=by
  unfold results
  congr 1
 unfold ey at h;have main:∀ vs,fn.results.toList.mapM (gq P fi T H)=some vs->∃ vs',(fn.results.mapM (wR tm)).run P w= .ok (⟨vs'⟩:Array Value) w/\cB Γ w vs vs':=by
  intro vs hvs;obtain ⟨vs',h1,h2⟩:=OM (P:=P) hR hT hvs;refine ⟨vs',?_,h2⟩;rw [Array.mapM_eq_mapM_toList];simp [h1]
 split at h
 ·rename_i x hx
  cases h;obtain ⟨vs',h1,h2⟩:=main _ hx;cases h2 with
  |cons hv ht=>
   cases ht;exact ⟨_,by rw [hdef];simp [h1],hv⟩
 ·rename_i vs hne hx
  cases h;obtain ⟨vs',h1,h2⟩:=main _ hx;have hlen:=h2.length;have:¬ (⟨vs'⟩:Array Value).size=1:=by
   intro e;simp only [List.size_toArray] at e;rw [e] at hlen
   match vs,hlen with
   | [x],_=>exact hne x rfl
  exact ⟨.tuple ⟨vs'⟩,by rw [hdef];simp [h1] at this ⊢;simp [this],.tuple h2⟩
 ·cases h
inductive gN (Γ:Ga) (w:World):Mode->FrameMode->Prop
 |returning:gN Γ w .returning .returning
 |panicking {v v':Value} {r:Bool} (h:VR Γ w v v'):gN Γ w (.panicking v r) (.panicking [{ v:=v',recovered:=r }])
theorem gN.mono (hg:Γ.le Γ') (hs:eN w w') {u:Mode} {u':FrameMode} (h:gN Γ w u u'):gN Γ' w' u u':=by
 cases h with
 |returning=>exact .returning
 |panicking h=>exact .panicking (h.mono hg hs)
theorem gN.settle {u:Mode} {u':FrameMode} (h:gN Γ w u u'):gN Γ w (qT u) (Go.settle u'):=by
 cases h with
 |returning=>exact .returning
 |@panicking v v' r h=>cases r with
  |true=>exact .returning
  |false=>exact .panicking h
theorem gN.VI {u:Mode} {u':FrameMode} (h:gN Γ w u u'):u'≠ .run:=by cases h<;>(intro e;cases e)
theorem Rx {args args':List Value} (h:cB Γ w args args'):∀ (i t:Nat),(i<=t/\t<i+args.length->VR Γ w (lk (vL i args) t) (args'.getD (t - i) Go.undef))/\(¬ (i<=t/\t<i+args.length)->lk (vL i args) t=Iv.aS):=by
 induction args generalizing args' with
 |nil=>intro i t;exact ⟨fun x=>by simp at x;omega,fun _=>rfl⟩
 |cons v args ih=>
  intro i t;cases h with
  |@cons _ v' _ l' hv ht=>
   obtain ⟨h1,h2⟩:=ih ht (i+1) t;simp only [vL,lk];by_cases e:i=t
   ·subst e
    refine ⟨fun _=>by simpa using hv,fun x=>absurd ⟨zai _,by simp⟩ x⟩
   ·rw [fY e]
    simp only [zab,zad];refine ⟨fun x=>?_,fun x=>h2 (by omega)⟩;have:=h1 ⟨by omega,by omega⟩;have e2:t - i=(t - (i+1))+1:=by omega
    rw [e2];simpa using this
theorem su {fi:FI} {fn:Func} {args:List Value} {args':Array Value} (hn:fi.nt=fn.ntmps) (hfit:fits fn args=true) (h:cB Γ w args args'.toList):
  TR Γ w fi (eA args) (args'++Array.replicate (fn.ntmps - args'.size) Go.undef):=by
 have hl:args.length=args'.size:=by simpa using h.length
 have hle:args.length<=fn.ntmps:=Nat.le_of_ble_eq_true hfit;refine ⟨by simp;omega,fun t=>?_⟩;unfold fw eA;cases hc:cls fi t with
 |out=>exact .aS _
 |tmp=>exact .aS _
 |loc=>
  simp only;obtain ⟨h1,h2⟩:=Rx h 0 t;by_cases ht:t<args.length
  ·have:=h1 ⟨Nat.zero_le _,by omega⟩
   have e:(args'++Array.replicate (fn.ntmps - args'.size) Go.undef).getD t Go.undef=args'.toList.getD (t - 0) Go.undef:=by
    simp [Array.getD_eq_getD_getElem?,List.getD_eq_getElem?_getD,Array.getElem?_append,show t<args'.size by omega]
   rw [e];exact this
  ·rw [h2 (by omega)];exact .aS _
def EE (Γ:Ga) (H:IH) (w:World) (u:Mode) (H':IH) (e:Ending) (u':FrameMode) (w':World):Prop:=
 (∃ v,e= .returned v)/\∃ Γ',gN Γ' w' u u'/\Rh Γ' H' w'/\Ext Γ H w Γ' H' w'
theorem oR {sf:Self} (S:Sound P sf) (hen:Enters P sf) (hdr:lK P sf) (hng:jE P=true) {f:FuncId} {fn:Func} {c:Code} (hf:P.funcs[f]? =some fn) (hb:fn.body=some c) {fi:FI} (hn:fi.nt=fn.ntmps) {args:List Value} {args':Array Value}
  (h:qF P sf fi fn c args H=some H') (hR:Rh Γ H w) (ha:cB Γ w args args'.toList) {u:Mode} {u':FrameMode} (hu:gN Γ w u u'):CallsDIn Fence.wide 0 P f args' u' w (EE Γ H w u H'):=by
 unfold qF at h;split at h
 case isFalse=>cases h
 rename_i hfit;have hst:St Γ H w fi (eA args) [] { tmps:=args'++Array.replicate (fn.ntmps - args'.size) Go.undef,defers:= [] }:=⟨hR,su hn hfit ha,.nil⟩
 have main:∀ {x:X} {T:En} {H1:IH} {D:List Deferred},aA P sf fi none c (eA args) H []=some (x,T,H1,D)->(x= .normal∨x= .ret)->D= []->
   (∃ v,ey P fi fn T H1=some v)->H1=H'->CallsDIn Fence.wide 0 P f args' u' w (EE Γ H w u H'):=by
  rintro x T H1 D hx hxx rfl ⟨v,hv⟩ rfl;refine (callsDIn_of_wp (R:=fun e w'=>(∃ v,e= .returned v)/\∃ Γ',Γ.le Γ'/\Rh Γ' H1 w'/\Ext Γ H w Γ' H1 w') hf hb trivial ?_).mono ?_
  ·refine wpIn_mono (fK S hen hdr hng c hx (fun _ e=>by cases e) hst).1 ?_
   rintro e a1 w1 ⟨Γ1,hx1,hst1,hE1⟩;simp only at hx1 hst1 hE1;have hd:a1.defers= []:=by have:=hst1.defs;generalize a1.defers=ds at this;cases this;rfl
   obtain ⟨v',hr, -⟩:=tC (P:=P) hst1.rh hst1.tmps hv;rcases hxx with rfl |rfl
   ·cases hx1;exact ⟨hd,v',hr,⟨_,rfl⟩,Γ1,hE1.le hR,hst1.rh,hE1⟩
   ·cases hx1;exact ⟨hd,v',hr,⟨_,rfl⟩,Γ1,hE1.le hR,hst1.rh,hE1⟩
  ·rintro e u1 w1 ⟨rfl,hv1,Γ1,hle,hR1,hE1⟩
   exact ⟨hv1,Γ1,hu.mono hle hE1.same,hR1,hE1⟩
 split at h
 ·rename_i T H1 hx
  split at h
  ·rename_i v hv;cases h;exact main hx (.inl rfl) rfl ⟨v,hv⟩ rfl
  ·cases h
 ·rename_i T H1 hx
  split at h
  ·rename_i v hv;cases h;exact main hx (.inr rfl) rfl ⟨v,hv⟩ rfl
  ·cases h
 ·cases h
theorem B1 {sf:Self} {fi:FI} {ops:Array Oper} {c₀:Frame} {cs:List Frame} {res:En×IH×Mode} (l:List Oper):
  ∀ (is:List Nat) (T:En) (H:IH) (u:Mode) (u':FrameMode) (a:Act) (w:World) (Γ:Ga) (Q:Exit->Act->List Frame->World->Prop),is.map (ops[·]?)=l.map some->(∀ o∈l,eu o=true)->
  eI P sf fi ops l T H u=some res->Rh Γ H w->TR Γ w fi T a.tmps->a.defers= []->gN Γ w u u'->
  (∀ a' w' Γ' u2,a'.defers= []->TR Γ' w' fi res.1 a'.tmps->Rh Γ' res.2.1 w'->gN Γ' w' res.2.2 u2->Ext Γ H w Γ' res.2.1 w'->Q .normal a' ({ c₀ with mode:=u2 }::cs) w')->
  wpOpsSIn Fence.wide 0 P ops Q is a ({ c₀ with mode:=u' }::cs) w:=by
 induction l with
 |nil=>
  intro is T H u u' a w Γ Q his _ h hR hT hd hu hq;have:is= []:=by simpa using his
  subst this;cases h;exact hq a w Γ u' hd hT hR hu (.refl _ _ _)
 |cons o l ih=>
  intro is T H u u' a w Γ Q his hpl h hR hT hd hu hq;cases is with
  |nil=>cases his
  |cons i is=>
   simp only [List.map_cons,List.cons.injEq] at his;obtain ⟨hi,his⟩:=his;have hpl':∀ o∈l,eu o=true:=fun x hx=>hpl x (zak _ hx)
   have hdp:∀ (dst:Option Tmp) (v:Value),(a.put dst v).defers= []:=fun dst v=>by cases dst<;>exact hd
   simp only [wpOpsSIn,hi];refine ⟨fun f _=>trivial,?_⟩;unfold eI at h;split at h
   ·rename_i hw
    rw [mP hT hw,if_pos rfl]
    have next:∀ {T':En} {H1:IH} {u1:Mode} {u1':FrameMode} {a':Act} {Γ1:Ga} {w1:World},eI P sf fi ops l T' H1 u1=some res->TR Γ1 w1 fi T' a'.tmps->Rh Γ1 H1 w1->a'.defers= []->gN Γ1 w1 u1 u1'->Ext Γ H w Γ1 H1 w1->
      wpOpsSIn Fence.wide 0 P ops Q is a' ({ c₀ with mode:=u1' }::cs) w1:=by
     intro T' H1 u1 u1' a' Γ1 w1 h1 hT1 hR1 hd1 hu1 hE;exact ih is T' H1 u1 u1' a' w1 Γ1 Q his hpl' h1 hR1 hT1 hd1 hu1 fun a2 w2 Γ2 u2 q1 q2 q3 q4 q5=>hq a2 w2 Γ2 u2 q1 q2 q3 q4 (hE.trans q5)
    split at h
    ·rename_i args ats ho
     have hrun:(execOp a.eval o).run P w= .ok .recover w:=by
      simp only [execOp,ho,resolve,invoke,builtin,Sem.run_bind,Sem.run_pure,Result.andThen_ok]
     rw [hrun];simp only;split at h
     ·rename_i v
      cases hu with
      |panicking hv=>
       simp only [recoverD];exact next h (hT.put o.dst hv) hR (hdp _ _) (.panicking hv) (.refl _ _ _)
     ·rename_i u hne
      have hnone:recoverD ({ c₀ with mode:=u' }::cs)=none:=by
       cases hu with
       |returning=>rfl
       |@panicking v v' r hv=>cases r with
        |true=>rfl
        |false=>exact absurd rfl (hne v)
      rw [hnone];simp only;exact next h (hT.put o.dst .nilIface) hR (hdp _ _) hu (.refl _ _ _)
    ·have hpo:=hpl o (List.mem_cons_self ..)
     split at h
     ·rename_i v H1 ho
      obtain ⟨v',w',Γ',hr,hv,hR1,hE⟩:=mT (a:=a) hR (VR.dC hR hT) hpo ho;rw [hr];exact next h ((hT.ext hR hE).put o.dst hv) hR1 (hdp _ _) (hu.mono (hE.le hR) hE.same) hE
     ·rename_i H1 ho
      obtain ⟨w',Γ',hr,hR1,hE⟩:=mT (a:=a) hR (VR.dC hR hT) hpo ho;rw [hr];exact next h ((hT.ext hR hE).put o.dst .undef) hR1 (hdp _ _) (hu.mono (hE.le hR) hE.same) hE
     ·cases h
   ·rename_i hw
    rw [mP hT hw,if_neg (by simp)];exact ih is _ _ _ _ _ _ _ _ his hpl' h hR (hT.put o.dst .undef) (hdp _ _) hu hq
   ·cases h
end Go.Iv
/- What the evaluator says of a whole call is so. -/
namespace Go.Iv
open Go
variable {P:Program} {Γ Γ':Ga} {H H':IH} {w w':World} {a:Act}
theorem Gd {ops:Array Oper} (h:calls ops=false):∀ o∈ops.toList,eu o=true:=by
 intro o ho;unfold calls at h;rw [List.any_eq_false] at h;have:=h o ho;unfold eu;split
 ·rename_i c hc
  split
  ·rfl
  ·rename_i hn
   exfalso
   apply this;rw [hc];obtain ⟨callee,args,ats⟩:=c;cases callee with
   |builtin b=>exact absurd rfl (hn b)
   |_=>rfl
 ·rfl
theorem zj {hint:Hint} {sf:Self} (S:Sound P sf) (hen:Enters P sf) (hdr:lK P sf) (hng:jE P=true) {f:FuncId} {args:List Value} {args':Array Value} {u u1:Mode}
  (h:nd P hint sf f args u H=some (u1,H')) (hR:Rh Γ H w) (ha:cB Γ w args args'.toList) {u':FrameMode} (hu:gN Γ w u u'):
  (∃ fn c,P.funcs[f]? =some fn/\fn.body=some c)/\CallsDIn Fence.wide 0 P f args' u' w (EE Γ H w u1 H'):=by
 unfold nd at h;split at h
 ·rename_i fn hf
  split at h
  ·rename_i id ops rest hb
   refine ⟨⟨fn,_,hf,hb⟩,?_⟩;split at h
   ·rename_i hc
    simp only [zae,Bool.not_eq_true'] at hc;obtain ⟨hc,hfit⟩:=hc;split at h
    ·rename_i T H1 u2 hx
     have main:∀ {x:X} {T2:En} {H2:IH} {D:List Deferred},aA P sf (cQ hint f fn) none rest T H1 []=some (x,T2,H2,D)->(x= .normal∨x= .ret)->D= []->
       fn.results.isEmpty=true->u2=u1->H2=H'->CallsDIn Fence.wide 0 P f args' u' w (EE Γ H w u1 H'):=by
      rintro x T2 H2 D hrest hxx rfl he rfl rfl;refine callsDIn_of_wpSIn hf hb trivial fun c₀ cs hm=>?_
      have hc₀:c₀={ c₀ with mode:=u' }:=by subst hm;rfl
      refine wpSIn_seq (wpSIn_region ?_);rw [hc₀];refine B1 (c₀:=c₀) (cs:=cs) ops.toList _ _ _ _ _ _ _ _ _ (Bz ops) (Gd hc.2) hx hR (su rfl hfit ha) rfl hu ?_;intro a1 w1 Γ1 u3 q1 q2 q3 q4 q5;simp only [Exit.thenS];refine wpSIn_of_wpIn rfl (wpIn_mono (fK S hen hdr hng rest hrest (fun _ e=>by cases e) ⟨q3,q2,by rw [q1];exact .nil⟩).1 ?_);rintro e a2 w2 ⟨Γ2,hx2,hst2,hE2⟩;simp only at hx2 hst2 hE2;have hd:a2.defers= []:=by have:=hst2.defs;generalize a2.defers=ds at this;cases this;rfl
      have hres:(results fn a2.tmps).run P w2= .ok (.tuple #[]) w2:=by
       have:fn.results=#[]:=by simpa using he
       exact results_none this _ _ _
      have hfin:bodyPostS P fn { c₀ with mode:=u' } cs (EE Γ H w u2 H2) .normal a2 ({ c₀ with mode:=u3 }::cs) w2:=
       ⟨hd,u3,rfl,_,hres,⟨_,rfl⟩,Γ2,q4.mono (hE2.le q3) hE2.same,hst2.rh,q5.trans hE2⟩
      rcases hxx with rfl |rfl
      ·cases hx2;exact hfin
      ·cases hx2;exact hfin
     split at h
     ·rename_i T2 H2 hr
      split at h
      ·rename_i he;cases h;exact main hr (.inl rfl) rfl he rfl rfl
      ·cases h
     ·rename_i T2 H2 hr
      split at h
      ·rename_i he;cases h;exact main hr (.inr rfl) rfl he rfl rfl
      ·cases h
     ·cases h
    ·cases h
   ·split at h
    ·rename_i H1 hp;cases h;exact oR S hen hdr hng hf hb rfl hp hR ha hu
    ·cases h
  ·rename_i c hne hb
   refine ⟨⟨fn,_,hf,hb⟩,?_⟩;split at h
   ·rename_i H1 hp;cases h;exact oR S hen hdr hng hf hb rfl hp hR ha hu
   ·cases h
  ·cases h
 ·cases h
theorem jt {hint:Hint} {sf:Self} (S:Sound P sf) (hen:Enters P sf) (hdr:lK P sf) (hng:jE P=true) {fi:FI} {fn:Func} {T:En} {tm:Array Value} {Γ0:Ga} {H0:IH} {w0:World} {e:End} (ds:List Deferred):
  ∀ {ds':List Deferred} {u:Mode} {u':FrameMode} {H:IH} {Γ:Ga} {w:World},b8 P hint sf fi fn T ds u H=some (e,H')->Rh Γ H w->TR Γ w fi T tm->RI Γ w ds ds'->gN Γ w u u'->Ext Γ0 H0 w0 Γ H w->
  LeavesInM Fence.wide 0 P fn tm (Bm Γ0 H0 w0 e H') ds' u' w:=by
 induction ds with
 |nil=>
  intro ds' u u' H Γ w h hR hT hd hu hE;cases hd;unfold b8 at h;cases hu with
  |returning=>
   simp only at h;split at h
   ·rename_i v hv
    cases h;obtain ⟨v',h1,h2⟩:=tC (P:=P) hR hT hv;exact ⟨v',h1,Γ,.returned h2,hR,hE⟩
   ·cases h
  |@panicking v v' r hv=>cases r with
   |true=>cases h
   |false=>cases h;exact ⟨Γ,.panicked hv,hR,hE⟩
 |cons d ds ih=>
  intro ds' u u' H Γ w h hR hT hd hu hE;cases hd with
  |@cons _ d' _ ds' hd1 hds=>
  unfold b8 at h;refine ⟨hu.VI,?_⟩;rcases hd1 with ⟨r,ht,hdr',rfl⟩ |⟨fv,c,c',as',hpl,ht,rfl,hc,has⟩
  ·rw [ht] at h
   simp only at h;split at h
   ·rename_i hb
    split at h
    ·rename_i hro
     left
     have hblk:w.heap[(Γ.φ r).1]? =some (.deferred (some [])):=hR.obj r _ hb;have hlt:=(Array.getElem?_eq_some_iff.1 hblk).1;have hs:eN w (w.putObj (Γ.φ r).1 (.deferred none)):=by
      intro b cs e f hb';refine ⟨cs,f,?_,rfl⟩;by_cases e1:b=(Γ.φ r).1
      ·subst e1;rw [hblk] at hb';cases hb'
      ·rw [World.putObj_heap_other e1];exact hb'
     obtain ⟨hR1,hE1⟩:=hR.hX (w':=w.putObj (Γ.φ r).1 (.deferred none)) (.mf false) hb hro (by simp) rfl rfl rfl hs (fun x hx=>World.putObj_heap_other hx) (World.putObj_heap_same hlt);refine ⟨_,_,rfl,run_takeDeferred hblk,ih h hR1 (hT.ext hR hE1) (hds.mono (hE1.le hR) hE1.same) (hu.mono (hE1.le hR) hE1.same) (hE.trans hE1)⟩
    ·cases h
   ·cases h
  ·rw [ht] at h
   split at h
   ·rename_i e1;cases e1
   ·rename_i f c1 e1
    cases e1;split at h
    ·rename_i u2 H2 hcd
     right
     obtain ⟨⟨fn1,cd,hf1,hb1⟩,hD⟩:=zj S hen hdr hng hcd hR (args':=as'++c') (by simpa using has.append hc) hu;refine ⟨mw (Γ:=Γ) none _,_,_,f,as'++c',rfl,kY hng hf1 hb1 _ _ _,fun g _=>trivial,hD.mono ?_⟩;rintro e2 u3 w2 ⟨⟨v,rfl⟩,Γ2,hu2,hR2,hE2⟩;exact ih h hR2 (hT.ext hR hE2) (hds.mono (hE2.le hR) hE2.same) hu2.settle (hE.trans hE2)
    ·cases h
   ·cases h
theorem B5 {hint:Hint} {sf:Self} (S:Sound P sf) (hen:Enters P sf) (hdr:lK P sf) (hng:jE P=true) {f:FuncId} {args:List Value} {args':Array Value} {e:End}
  (h:cb P hint sf f args H=some (e,H')) (hR:Rh Γ H w) (ha:cB Γ w args args'.toList):CallsIn Fence.wide 0 P f args' w (Bm Γ H w e H'):=by
 unfold cb at h;split at h
 ·rename_i fn hf
  split at h
  ·rename_i c hb
   split at h
   case isFalse=>cases h
   rename_i hfit;refine callsIn_of_wp_marks hf hb trivial ?_;have hst:St Γ H w (cQ hint f fn) (eA args) [] { tmps:=args'++Array.replicate (fn.ntmps - args'.size) Go.undef,defers:= [] }:=⟨hR,su rfl hfit ha,.nil⟩;cases hx:aA P sf (cQ hint f fn) none c (eA args) H [] with
   |none=>rw [hx] at h;cases h
   |some rx=>
    rw [hx] at h;obtain ⟨ex,T1,H1,D1⟩:=rx;refine wpIn_mono (fK S hen hdr hng c hx (fun _ e=>by cases e) hst).1 ?_;rintro e1 a1 w1 ⟨Γ1,hx1,hst1,hE1⟩;simp only at hx1 hst1 hE1;cases hx1 with
    |normal=>exact jt S hen hdr hng D1 h hst1.rh hst1.tmps hst1.defs .returning hE1
    |ret=>exact jt S hen hdr hng D1 h hst1.rh hst1.tmps hst1.defs .returning hE1
    |panic hv=>exact jt S hen hdr hng D1 h hst1.rh hst1.tmps hst1.defs (.panicking hv) hE1
    |exit id=>cases h
  ·cases h
 ·cases h
theorem yS {hint:Hint} {sf:Self} {f:FuncId} {args:List Value} {e:End} (h:cb P hint sf f args H=some (e,H')):∃ fn c,P.funcs[f]? =some fn/\fn.body=some c:=by
 unfold cb at h;split at h
 ·rename_i fn hf
  split at h
  ·rename_i c hb;exact ⟨fn,c,hf,hb⟩
  ·cases h
 ·cases h
def jB (P:Program) (spec:Spec):Prop:=∀ {f:FuncId} {args:List Value} {H:IH} {e:End} {H':IH},spec f args H=some (e,H')->
 (∃ fn c,P.funcs[f]? =some fn/\fn.body=some c)/\∀ {Γ:Ga} {w:World} {args':Array Value},Rh Γ H w->cB Γ w args args'.toList->CallsIn Fence.wide 0 P f args' w (Bm Γ H w e H')
theorem MD (P:Program):jB P Dm:=fun h=>by cases h
theorem Et {hint:Hint} {spec:Spec} (hng:jE P=true) (hdr:∀ sf,Sound P sf->lK P sf) (hsp:jB P spec):∀ n,Sound P (ev P hint spec n)/\Enters P (ev P hint spec n):=by
 intro n
 induction n with
 |zero=>
  refine ⟨⟨?_,?_,?_⟩,?_⟩
  ·intro fi ro c T H D r Γ w a h;cases h
  ·intro fi ro c T H D r Γ w a h;cases h
  ·intro f args H e H' Γ w args' h;cases h
  ·intro f args H e H' h;cases h
 |succ n ih=>
  obtain ⟨S,hen⟩:=ih;have hd:lK P (ev P hint spec n):=fun h hro hst=>hdr _ S h hro hst
  refine ⟨⟨?_,?_,?_⟩,?_⟩
  ·intro fi ro c T H D r Γ w a h hro hst;exact (fK S hen hd hng _ h hro hst).1
  ·intro fi ro c T H D r Γ w a h hro hst;exact (fK S hen hd hng _ h hro hst).2 _ rfl
  ·intro f args H e H' Γ w args' h hR ha
   have h':di P hint spec (ev P hint spec n) f args H=some (e,H'):=h;unfold di at h';split at h'
   ·rename_i r hs;cases h';exact (hsp hs).2 hR ha
   ·exact B5 S hen hd hng h' hR ha
  ·intro f args H e H' h
   have h':di P hint spec (ev P hint spec n) f args H=some (e,H'):=h;unfold di at h';split at h'
   ·rename_i r hs;cases h';exact (hsp hs).1
   ·exact yS h'
end Go.Iv
