/- What the evaluator says of code is so: code, loops, ranges over functions, calls, deferred calls. -/
import Derived.Test.YteknbnkjelmfaaaGreatDoorGvShort
set_option linter.unusedSimpArgs false
set_option linter.unusedVariables false
namespace Go.Iv
open Go
variable {P:Program} {Γ Γ':Ga} {H H':IH} {w w':World} {F:Fence} {n:Nat} {Q:Exit->Act->World->Prop} {a:Act}
def qt (P:Program) (sf:Self):Prop:=∀ {fi:FI} {ro:Option Nat} {id:Nat} {ops:Array Oper} {T:En} {H:IH} {D:List Deferred} {r:X×En×IH×List Deferred} {Γ:Ga} {w:World} {a:Act},
 rn P sf fi ops T H D=some r->pV Γ ro->St Γ H w fi T D a->(Code.region id ops true).wpIn (FO Γ ro) 0 P (iw Γ H w fi r) a w
theorem fb {b:Frame} {a:Act} {k:List Item} {cs:List Frame} {w:World} {c:Code}:step P (lone (b.atR a (.code (.scope c)::k)) cs w)= .next (lone (b.atR a (.code c:: .inScope c::k)) cs w):=
 step_lone_go (by rfl)
theorem wh {b:Frame} {a:Act} {k:List Item} {cs:List Frame} {w:World} {c:Code}:step P (lone (b.atR a (.inScope c::k)) cs w)= .next (lone (b.atR a k) cs w):=
 step_lone_go (by rfl)
theorem EZ {c:Code} (h:c.wpIn F n P Q a w) (hg:∀ l a w,¬ Q (.goto l) a w):(Code.scope c).wpIn F n P Q a w:=by
 intro b k cs hro hb hr;have h0:(lone (b.atR a (.code (.scope c)::k)) cs w).fenced P F:=fenced_calm hb hr rfl;obtain ⟨e,a₁,w₁,hq,harr⟩:=h b (.inScope c::k) cs hro hb hr;cases e with
 |normal=>exact ⟨.normal,a₁,w₁,hq,.head h0 fb (StepsIn.trans harr (.one (fenced_calm hb hr rfl) wh))⟩
 |exit id=>
  have hx:exitTo id (.inScope c::k)=exitTo id k:=by simp [exitTo]
  exact ⟨_,a₁,w₁,hq,fun k' hk=> .head h0 fb (harr.1 k' (by rw [hx];exact hk)),
   fun hr' hk=>let ⟨k₁,h1,h2⟩:=harr.2 hr' (by rw [hx];exact hk);⟨k₁,h1,.head h0 fb h2⟩⟩
 |goto l=>grind
 |ret=>exact ⟨_,a₁,w₁,hq,.of_steps (.one h0 fb) harr⟩
 |panic ch=>exact ⟨_,a₁,w₁,hq,.of_steps (.one h0 fb) harr⟩
 |outgrown=>exact ⟨_,a₁,w₁,hq,.of_steps (.one h0 fb) harr⟩
theorem Pq {c:Code} (h:c.wpIn F n P (Exit.then (BN F n P c Q) Q) a w):BN F n P c Q a w:=by
 intro b k cs hro hb hr;obtain ⟨e,a₁,w₁,hq,harr⟩:=h b (.inLoop c::k) cs hro hb hr;cases e with
 |normal=>
  obtain ⟨e₂,a₂,w₂,hq₂,harr₂⟩:=hq b k cs hro hb hr;exact ⟨e₂,a₂,w₂,hq₂,.of_steps (StepsIn.trans harr (.one (fenced_calm hb hr rfl) stepR_inLoop)) harr₂⟩
 |exit id=>exact ⟨_,a₁,w₁,hq,.pass (x:= .inLoop c) rfl (fun _ _=> .inl (by simp)) harr⟩
 |goto l=>exact ⟨_,a₁,w₁,hq,.pass (x:= .inLoop c) rfl (fun _ _=> .inl (by simp)) harr⟩
 |ret=>exact ⟨_,a₁,w₁,hq,.pass (x:= .inLoop c) rfl (fun _ _=> .inl (by simp)) harr⟩
 |panic ch=>exact ⟨_,a₁,w₁,hq,.pass (x:= .inLoop c) rfl (fun _ _=> .inl (by simp)) harr⟩
 |outgrown=>exact ⟨_,a₁,w₁,hq,.pass (x:= .inLoop c) rfl (fun _ _=> .inl (by simp)) harr⟩
theorem AD {c:Code} (h:BN F n P c Q a w):(Code.loop c).wpIn F n P Q a w:=fun b k cs hro hb hr=>
 let ⟨e,a',w',hq,harr⟩:=h b k cs hro hb hr
 ⟨e,a',w',hq,.of_steps (.one (fenced_calm hb hr rfl) stepR_loop) harr⟩
theorem IS {c:Code} {Q':Exit->Act->World->Prop} (h:BN F n P c Q a w) (hq:∀ e a w,Q e a w->Q' e a w):BN F n P c Q' a w:=
 fun b k cs hro hb hr=>let ⟨e,a',w',q,r⟩:=h b k cs hro hb hr;⟨e,a',w',hq _ _ _ q,r⟩
theorem uW {sf:Self} (S:Sound P sf) {ro:Option Nat} {l:Nat} {g:FuncId} {args:List Value} {args':Array Value} {Γ0:Ga} {H0:IH} {w0:World} {fi:FI} {T:En} {D:List Deferred} {e:End} {H1:IH} {r:X×En×IH×List Deferred}
  (hc:sf.call g args H=some (e,H1)) (hst:St Γ H w fi T D a) (hE:Ext Γ0 H0 w0 Γ H w) (ha:bX Γ w args args'.toList) (hd:Γ.aT l) (hl:ep<=l)
  (hr:(match (some (e,H1):Option (End×IH)) with
   |some (.returned _,H)=>
    match H.get l with
    |some (.loop st pd fi2 E2 ps eo body)=>
     if st==LoopState.busy then none else
     let H:=H.put l (.loop .exhausted pd fi2 E2 ps eo body)
     match pd with
     |none=>some (.normal,T,H,D)
     |some .ret=>some (.ret,T,H,D)
     |some (.exit id)=>some (.exit id,T,H,D)
     |_=>none
    |_=>none
   |some (.panicked v,H)=>some (.panic v,T,H,D)
   |none=>none)=some r):
  CallsIn (FO Γ ro) 0 P g args' w (rangePost (FO Γ ro) 0 P (Γ.φ l).1 (iw Γ0 H0 w0 fi r) a):=by
 refine CN ((S.call hc hst.rh ha).mono ?_);rintro e1 w1 ⟨Γ1,he,hR1,hE1⟩;have hle:=hE1.le hst.rh;cases he with
 |returned hv=>
  simp only at hr;split at hr
  .rename_i st pd fi2 E2 ps eo body hl1
   split at hr
   .cases hr
   .rename_i hst'
    obtain ⟨rc,hrc,hs,hp, -, -, -, -,hR2,hE2⟩:=pO hR1 hl1 hl .exhausted pd;have hend:=run_endLoop (P:=P) hrc (by grind);rw [hp] at hend;rw [hle.φ l hd] at hend;refine ⟨pd,_,hend,?_⟩;rw [hle.φ l hd] at hR2 hE2;have hfin:=(hst.ext hR1 hE1).ext hR2 hE2;have hEE:=(hE.trans hE1).trans hE2;cases pd with
    |none=>simp only at hr ⊢;cases hr;exact ⟨Γ1,.normal,hfin,hEE⟩
    |some c=>
     simp only at hr ⊢;cases c with
     |ret=>cases hr;exact wpIn_ret ⟨Γ1,.ret,hfin,hEE⟩
     |exit id=>cases hr;exact wpIn_exit ⟨Γ1,.exit id,hfin,hEE⟩
     |_=>cases hr
  .cases hr
 |panicked hv=>
  cases hr;exact ⟨Γ1,.panic hv,hst.ext hR1 hE1,hE.trans hE1⟩
theorem iw.OQ {fi:FI} {r:X×En×IH×List Deferred} {l:Nat}:¬ iw Γ H w fi r (.goto l) a w':=by
 obtain ⟨x,T,H1,D⟩:=r;rintro ⟨Γ1,hx, -, -⟩;simp only at hx;cases hx
theorem rk {l₀:Nat} {r₀:Loop} (h:w.heap[l₀]? =some (.loop r₀)) (fn:FuncId) (tmps:Array Value) (ps:Array Tmp) (assign body:Code):
  (Instr.enterLoop fn tmps ps assign body (some l₀)).run P w=
   .ok (w.heap.size,[]) (w.alloc (.loop { state:= .ready,pending:=none,fn,tmps,params:=ps,assign,body,defers:=r₀.defers })):=by
 unfold Instr.enterLoop;simp only [Sem.run_bind,run_getLoop h,run_newObj_alloc,Result.andThen,Sem.run_pure]
theorem pG (hng:lr P=true) {f:FuncId} {fn:Func} {c:Code} (hf:P.funcs[f]? =some fn) (hb:fn.body=some c) (cap args:Array Value) (w:World):
  (invoke (.fn (.func f) cap) args).run P w= .ok (.enter f (args++cap)) w:=by
 simp only [invoke];exact lQ hng hf hb _ _
def Enters (P:Program) (sf:Self):Prop:=∀ {f:FuncId} {args:List Value} {H:IH} {e:End} {H':IH},sf.call f args H=some (e,H')->∃ fn c,P.funcs[f]? =some fn/\fn.body=some c
theorem s5 {sf:Self} (S:Sound P sf) (hen:Enters P sf) (hng:lr P=true) {ro:Option Nat} {f:Operand} {ps:Array Tmp} {eo body:Code} {fi:FI} {T:En} {D:List Deferred} {r:X×En×IH×List Deferred}
  (h:aK P sf fi ro (.rangeFunc f ps eo body) T H D=some r) (hro:pV Γ ro) (hst:St Γ H w fi T D a):(Code.rangeFunc f ps eo body).wpIn (FO Γ ro) 0 P (iw Γ H w fi r) a w:=by
 unfold aK at h;split at h
 .cases h
 .rename_i hla
  have hf:=VR.eQ (a:=a) hst.rh hst.tmps f;split at h
  .rename_i g first captured hv
   rw [hv] at hf;obtain ⟨a1,c1,hfe,h1,h2⟩:=hf.Gq rfl;have hres:∀ (L:Nat) (w1:World),(resolve a.eval (rangeCall f L) 0).run P w1= .ok { target:= .fn (.func g) c1,args:=a1++#[.func (.yield L) #[] #[]] } w1:=by
    intro L w1;have e:resolve a.eval (rangeCall f L) 0=Deferred.ofValue (a.eval f) (#[Operand.const (.func (.yield L) #[] #[])].map a.eval):=rfl;rw [e,hfe];simp [Deferred.ofValue,Act.eval]
   simp only at h;cases ro with
   |none=>
    simp only at h;cases hc:sf.call g (first.toList++ [Value.func (.yield (H.n+1)) #[] #[]]++captured.toList) ((H.new (.mg true)).new (.loop .ready none fi T ps.toList eo body)) with
    |none=>grind
    |some p=>
     obtain ⟨e,H1⟩:=p;rw [hc] at h;obtain ⟨fn1,cd,hfn1,hbd⟩:=hen hc;refine wpIn_rangeFunc fun fn _=>?_
     obtain ⟨hR1,hE1⟩:=hst.rh.new (.mg true) (.deferred (some [])) (by
      show (w.alloc _).heap[_]? =_
      rw [Ga.bh];exact heap_alloc_new)
     have hst1:=hst.ext hR1 hE1;obtain ⟨hR2,hE2⟩:=hR1.new (.loop .ready none fi T ps.toList eo body) (.loop { state:= .ready,pending:=none,fn,tmps:=a.tmps,params:=ps,assign:=eo,body,defers:=w.heap.size }) (by
      refine ⟨fn,a.tmps,w.heap.size,?_,?_⟩
      .rw [Ga.bh];exact heap_alloc_new
      .exact hst1.tmps.mono (Ga.le_next fun x=>by have:=hR1.aT _ x;omega) (.alloc _ _))
     have hst2:=hst1.ext hR2 hE2;have hE:=hE1.trans hE2;have hle:=hE.le hst.rh;have hl:((Ga.next (Γ.next H.n (w.heap.size,0)) (H.new (.mg true)).n ((w.alloc (.deferred (some []))).heap.size,0)).φ (H.n+1)).1=w.heap.size+1:=by
      have:(H.new (.mg true)).n=H.n+1:=by simp
      rw [←this,Ga.bh];simp
     have hd1:(Ga.next (Γ.next H.n (w.heap.size,0)) (H.new (.mg true)).n ((w.alloc (.deferred (some []))).heap.size,0)).aT (H.n+1):= .inr (by simp);refine ⟨w.heap.size+1,[{ target:= .collected w.heap.size,args:=#[] }],_,_,_,g,a1++#[.func (.yield (w.heap.size+1)) #[] #[]]++c1,_,run_enterLoop_outer _ _ _ _ _,hres _ _,fun f' _=>vB _ f',pG hng hfn1 hbd _ _ _,oY _ _,?_⟩
     .rw [←hl]
      refine uW (ro:=none) (a:={ a with defers:={ target:= .collected w.heap.size,args:=#[] }::a.defers }) S hc ⟨hst2.rh,hst2.tmps,.cons (.inl ⟨H.n,rfl,.inl (.inr rfl),?_⟩) hst2.defs⟩ hE ?_ hd1 ?_ h
      .have:((Ga.next (Γ.next H.n (w.heap.size,0)) (H.new (.mg true)).n ((w.alloc (.deferred (some []))).heap.size,0)).φ H.n).1=w.heap.size:=by
        simp [Ga.next]
       rw [this]
      .simpa using ((h1.mono hle hE.same).append (.cons (.yield hd1) .nil)).append (h2.mono hle hE.same)
      .have:=hst.rh.ro;omega
   |some l0=>
    simp only at h;cases hc:sf.call g (first.toList++ [Value.func (.yield H.n) #[] #[]]++captured.toList) (H.new (.loop .ready none fi T ps.toList eo body)) with
    |none=>grind
    |some p=>
     obtain ⟨e,H1⟩:=p;rw [hc] at h;obtain ⟨fn1,cd,hfn1,hbd⟩:=hen hc;obtain ⟨r0,hr0⟩:∃ r0,w.heap[(Γ.φ l0).1]? =some (.loop r0):=by
      unfold qG at hla;cases hb:H.get l0 with
      |none=>simp [hb] at hla
      |some o=>
       cases o with
       |loop st pd fi' T' ps' asg' body'=>obtain ⟨fn,tm,df,h3, -⟩:=hst.rh.obj _ _ hb;exact ⟨_,h3⟩
       |_=>simp [hb] at hla
     refine wpIn_rangeFunc fun fn _=>?_
     obtain ⟨hR1,hE⟩:=hst.rh.new (.loop .ready none fi T ps.toList eo body) (.loop { state:= .ready,pending:=none,fn,tmps:=a.tmps,params:=ps,assign:=eo,body,defers:=r0.defers }) (by
      refine ⟨fn,a.tmps,r0.defers,?_,?_⟩
      .rw [Ga.bh];exact heap_alloc_new
      .exact hst.tmps.mono (Ga.le_next fun x=>by have:=hst.rh.aT _ x;omega) (.alloc _ _))
     have hst1:=hst.ext hR1 hE;have hle:=hE.le hst.rh;have hd1:(Γ.next H.n (w.heap.size,0)).aT H.n:= .inr rfl;refine ⟨w.heap.size,[],_,_,_,g,a1++#[.func (.yield w.heap.size) #[] #[]]++c1,_,rk hr0 _ _ _ _ _,hres _ _,fun f' _=>vB _ f',pG hng hfn1 hbd _ _ _,oY _ _,?_⟩
     .have:=uW (ro:=some l0) (l:=H.n) (args':=a1++#[.func (.yield w.heap.size) #[] #[]]++c1) S hc hst1 hE (by
       have hy:VR (Γ.next H.n (w.heap.size,0)) (w.alloc (.loop { state:= .ready,pending:=none,fn,tmps:=a.tmps,params:=ps,assign:=eo,body,defers:=r0.defers })) (.func (.yield H.n) #[] #[]) (.func (.yield w.heap.size) #[] #[]):=by
        have:=VR.yield (w:=w.alloc (.loop { state:= .ready,pending:=none,fn,tmps:=a.tmps,params:=ps,assign:=eo,body,defers:=r0.defers })) hd1;simpa [Ga.bh] using this
       simpa using ((h1.mono hle hE.same).append (.cons hy .nil)).append (h2.mono hle hE.same)) hd1 hst.rh.ro h
      rw [xv hle hro,Ga.bh] at this;exact this
  .cases h
end Go.Iv
/- What the evaluator says is so: code and calls. -/
namespace Go.Iv
open Go
variable {P:Program} {Γ Γ':Ga} {H H':IH} {w w':World} {a:Act}
theorem kC {sf:Self} (S:Sound P sf) (hen:Enters P sf) (hdr:qt P sf) (hng:lr P=true) {fi:FI} {ro:Option Nat} (c:Code):
  ∀ {T:En} {H:IH} {D:List Deferred} {r:X×En×IH×List Deferred} {Γ:Ga} {w:World} {a:Act},
  aK P sf fi ro c T H D=some r->pV Γ ro->St Γ H w fi T D a->c.wpIn (FO Γ ro) 0 P (iw Γ H w fi r) a w/\∀ c',c= .loop c'->BN (FO Γ ro) 0 P c' (iw Γ H w fi r) a w:=by
 induction c with
 |skip=>intro T H D r Γ w a h hro hst;cases h;exact ⟨wpIn_skip ⟨Γ,.normal,hst,.refl Γ H w⟩,fun c' e=>by cases e⟩
 |label l=>intro T H D r Γ w a h hro hst;cases h;exact ⟨wpIn_label ⟨Γ,.normal,hst,.refl Γ H w⟩,fun c' e=>by cases e⟩
 |exit id=>intro T H D r Γ w a h hro hst;cases h;exact ⟨wpIn_exit ⟨Γ,.exit id,hst,.refl Γ H w⟩,fun c' e=>by cases e⟩
 |ret=>intro T H D r Γ w a h hro hst;cases h;exact ⟨wpIn_ret ⟨Γ,.ret,hst,.refl Γ H w⟩,fun c' e=>by cases e⟩
 |goto l=>intro T H D r Γ w a h hro hst;cases h
 |refuse s=>intro T H D r Γ w a h hro hst;cases h
 |region id ops draw=>
  intro T H D r Γ w a h hro hst;refine ⟨?_,fun c' e=>by cases e⟩;cases draw with
  |false=>exact wpIn_region (CY S hng _ _ _ _ _ _ _ _ _ (Ir ops) h hro ⟨hst.rh,hst.tmps.reset,hst.defs⟩ fun _ _ _ h=>h)
  |true=>exact hdr h hro ⟨hst.rh,hst.tmps.reset,hst.defs⟩
 |scope c ih=>
  intro T H D r Γ w a h hro hst;exact ⟨EZ (ih h hro hst).1 fun l a w=>iw.OQ,fun c' e=>by cases e⟩
 |rangeFunc f ps eo body _ _=>
  intro T H D r Γ w a h hro hst;exact ⟨s5 S hen hng h hro hst,fun c' e=>by cases e⟩
 |cond c x y ihx ihy=>
  intro T H D r Γ w a h hro hst;refine ⟨?_,fun c' e=>by cases e⟩;have hc:=VR.eQ (a:=a) hst.rh hst.tmps c;unfold aK at h;split at h
  .rename_i e;rw [e] at hc;exact wpIn_cond_true hc.BY (ihx h hro hst).1
  .rename_i e;rw [e] at hc;exact wpIn_cond_false hc.BY (ihy h hro hst).1
  .cases h
 |seq x y ihx ihy=>
  intro T H D r Γ w a h hro hst;refine ⟨wpIn_seq ?_,fun c' e=>by cases e⟩;unfold aK at h;cases hx:aK P sf fi ro x T H D with
  |none=>grind
  |some rx=>
   rw [hx] at h;obtain ⟨ex,T1,H1,D1⟩:=rx;refine wpIn_mono (ihx hx hro hst).1 ?_;rintro e1 a1 w1 ⟨Γ1,hx1,hst1,hE1⟩;simp only at hx1 hst1 hE1;cases hx1 with
   |normal=>
    simp only at h;have hle:=hE1.le hst.rh;have:=(ihy h (hro.mono hle) hst1).1;rw [xv hle hro] at this;exact wpIn_mono this fun e a w hp=>hp.after hE1
   |exit id=>simp only at h;cases h;exact ⟨Γ1,.exit id,hst1,hE1⟩
   |ret=>simp only at h;cases h;exact ⟨Γ1,.ret,hst1,hE1⟩
   |panic hv=>simp only at h;cases h;exact ⟨Γ1,.panic hv,hst1,hE1⟩
 |block id c ih=>
  intro T H D r Γ w a h hro hst;refine ⟨wpIn_block ?_,fun c' e=>by cases e⟩;unfold aK at h;cases hx:aK P sf fi ro c T H D with
  |none=>grind
  |some rx=>
   rw [hx] at h;obtain ⟨ex,T1,H1,D1⟩:=rx;refine wpIn_mono (ih hx hro hst).1 ?_;rintro e1 a1 w1 ⟨Γ1,hx1,hst1,hE1⟩;simp only at hx1 hst1 hE1;cases hx1 with
   |normal=>simp only at h;cases h;exact ⟨Γ1,.normal,hst1,hE1⟩
   |exit j=>
    simp only at h;simp only [Exit.inBlock];split at h
    .rename_i e;cases h;rw [if_pos e];exact ⟨Γ1,.normal,hst1,hE1⟩
    .rename_i e;cases h;rw [if_neg e];exact ⟨Γ1,.exit j,hst1,hE1⟩
   |ret=>simp only at h;cases h;exact ⟨Γ1,.ret,hst1,hE1⟩
   |panic hv=>simp only at h;cases h;exact ⟨Γ1,.panic hv,hst1,hE1⟩
 |loop c ih=>
  intro T H D r Γ w a h hro hst;have key:BN (FO Γ ro) 0 P c (iw Γ H w fi r) a w:=by
   refine Pq ?_;unfold aK at h;cases hx:aK P sf fi ro c T H D with
   |none=>grind
   |some rx=>
    rw [hx] at h;obtain ⟨ex,T1,H1,D1⟩:=rx;refine wpIn_mono (ih hx hro hst).1 ?_;rintro e1 a1 w1 ⟨Γ1,hx1,hst1,hE1⟩;simp only at hx1 hst1 hE1;cases hx1 with
    |normal=>
     simp only at h;have hle:=hE1.le hst.rh;have:=S.loop h (hro.mono hle) hst1;rw [xv hle hro] at this;exact IS this fun e a w hp=>hp.after hE1
    |exit id=>simp only at h;cases h;exact ⟨Γ1,.exit id,hst1,hE1⟩
    |ret=>simp only at h;cases h;exact ⟨Γ1,.ret,hst1,hE1⟩
    |panic hv=>simp only at h;cases h;exact ⟨Γ1,.panic hv,hst1,hE1⟩
  exact ⟨AD key,fun c' e=>by grind⟩
end Go.Iv
/- What the evaluator says of calls is so. -/
namespace Go.Iv
open Go
variable {P:Program} {Γ Γ':Ga} {H H':IH} {w w':World} {a:Act}
def vT (tm:Array Value):ResultVar->Sem Value
 | .tmp t=>pure (tm.getD t undef)
 | .cell a t=>do loadVar t (←asAddr (tm.getD a undef))
theorem yQ (hR:Rh Γ H w) {fi:FI} {T:En} {tm:Array Value} (hT:TR Γ w fi T tm) {rv:ResultVar} {v:Value} (h:gq P fi T H rv=some v):
  ∃ v',(vT tm rv).run P w= .ok v' w/\VR Γ w v v':=by
 unfold gq at h;have hg:=hT.get;split at h
 .rename_i t
  cases h;exact ⟨_,rfl,hg t⟩
 .rename_i a t
  have ha:=hg a;split at h
  .rename_i b off e
   rw [e] at ha;obtain ⟨b1,o1,e1,hd,he⟩:=ha.nR;cases e1;obtain ⟨v',h1,h2⟩:=wR (P:=P) hR h;exact ⟨v',by simp [vT,asAddr,he,h1],h2⟩
  .cases h
theorem NN (hR:Rh Γ H w) {fi:FI} {T:En} {tm:Array Value} (hT:TR Γ w fi T tm):∀ {l:List ResultVar} {vs:List Value},l.mapM (gq P fi T H)=some vs->
  ∃ vs',(l.mapM (vT tm)).run P w= .ok vs' w/\bX Γ w vs vs':=by
 intro l
 induction l with
 |nil=>intro vs h;simp at h;subst h;exact ⟨[],by simp,.nil⟩
 |cons r l ih=>
  intro vs h;simp only [List.mapM_cons,Option.bind_eq_bind,Option.bind_eq_some_iff,Option.pure_def,Option.some.injEq] at h;obtain ⟨v,h1,vs1,h2,rfl⟩:=h;obtain ⟨v',h3,h4⟩:=yQ (P:=P) hR hT h1;obtain ⟨vs',h5,h6⟩:=ih h2;exact ⟨v'::vs',by simp_all,.cons h4 h6⟩
theorem Cr (hR:Rh Γ H w) {fn:Func} {fi:FI} {T:En} {tm:Array Value} (hT:TR Γ w fi T tm) {v:Value} (h:fN P fi fn T H=some v):
  ∃ v',(results fn tm).run P w= .ok v' w/\VR Γ w v v':=by
 have hdef:results fn tm=(do
   let vs ←fn.results.mapM (vT tm)
   pure (if h:vs.size=1 then vs[0] else .tuple vs)):=by
  unfold results
  congr 1
 unfold fN at h;have main:∀ vs,fn.results.toList.mapM (gq P fi T H)=some vs->∃ vs',(fn.results.mapM (vT tm)).run P w= .ok (⟨vs'⟩:Array Value) w/\bX Γ w vs vs':=by
  intro vs hvs;obtain ⟨vs',h1,h2⟩:=NN (P:=P) hR hT hvs;refine ⟨vs',?_,h2⟩;rw [Array.mapM_eq_mapM_toList];simp [h1]
 split at h
 .rename_i x hx
  cases h;obtain ⟨vs',h1,h2⟩:=main _ hx;cases h2 with
  |cons hv ht=>
   cases ht
   simp_all
 .rename_i vs hne hx
  cases h;obtain ⟨vs',h1,h2⟩:=main _ hx;have hlen:=h2.length;have:¬ (⟨vs'⟩:Array Value).size=1:=by
   intro e;simp only [List.size_toArray] at e;rw [e] at hlen
   match vs,hlen with
   | [x],_=>exact hne x rfl
  exact ⟨.tuple ⟨vs'⟩,by simp_all,.tuple h2⟩
 .cases h
inductive rN (Γ:Ga) (w:World):Mode->FrameMode->Prop
 |returning:rN Γ w .returning .returning
 |panicking {v v':Value} {r:Bool} (h:VR Γ w v v'):rN Γ w (.panicking v r) (.panicking [{ v:=v',recovered:=r }])
theorem rN.mono (hg:Γ.le Γ') (hs:eD w w') {u:Mode} {u':FrameMode} (h:rN Γ w u u'):rN Γ' w' u u':=by
 cases h with
 |returning=>exact .returning
 |panicking h=>exact .panicking (h.mono hg hs)
theorem rN.SJ {u:Mode} {u':FrameMode} (h:rN Γ w u u'):u'≠ .run:=by cases h<;>(intro e;cases e)
theorem Ls {args args':List Value} (h:bX Γ w args args'):∀ (i t:Nat),(i<=t/\t<i+args.length->VR Γ w (lk (uR i args) t) (args'.getD (t - i) Go.undef))/\(¬ (i<=t/\t<i+args.length)->lk (uR i args) t=Iv.aO):=by
 induction args generalizing args' with
 |nil=>intro i t;exact ⟨fun x=>by simp at x;omega,fun _=>rfl⟩
 |cons v args ih=>
  intro i t;cases h with
  |@cons _ v' _ l' hv ht=>
   obtain ⟨h1,h2⟩:=ih ht (i+1) t;simp only [uR,lk];by_cases e:i=t
   .simp_all
   .rw [gM e]
    simp only [zab,zad];refine ⟨fun x=>?_,fun x=>h2 (by omega)⟩;have:=h1 ⟨by omega,by omega⟩;have e2:t - i=(t - (i+1))+1:=by omega
    simp_all
theorem J2 {fi:FI} {fn:Func} {args:List Value} {args':Array Value} (hn:fi.nt=fn.ntmps) (hfit:fits fn args=true) (h:bX Γ w args args'.toList):
  TR Γ w fi (mK args) (args'++Array.replicate (fn.ntmps - args'.size) Go.undef):=by
 have hl:args.length=args'.size:=by simpa using h.length
 have hle:args.length<=fn.ntmps:=Nat.le_of_ble_eq_true hfit;refine ⟨by simp;omega,fun t=>?_⟩;unfold ft mK;cases hc:cls fi t with
 |out=>exact .aO _
 |tmp=>exact .aO _
 |loc=>
  simp only;obtain ⟨h1,h2⟩:=Ls h 0 t;by_cases ht:t<args.length
  .have:=h1 ⟨Nat.zero_le _,by omega⟩
   have e:(args'++Array.replicate (fn.ntmps - args'.size) Go.undef).getD t Go.undef=args'.toList.getD (t - 0) Go.undef:=by
    simp [Array.getD_eq_getD_getElem?,List.getD_eq_getElem?_getD,Array.getElem?_append,show t<args'.size by omega]
   grind
  .rw [h2 (by omega)];exact .aO _
end Go.Iv
/- What the evaluator says of a whole call is so. -/
namespace Go.Iv
open Go
variable {P:Program} {Γ Γ':Ga} {H H':IH} {w w':World} {a:Act}
theorem ju {hint:Hint} {sf:Self} (S:Sound P sf) (hen:Enters P sf) (hdr:qt P sf) (hng:lr P=true) {fi:FI} {fn:Func} {T:En} {tm:Array Value} {Γ0:Ga} {H0:IH} {w0:World} {e:End} (ds:List Deferred):
  ∀ {ds':List Deferred} {u:Mode} {u':FrameMode} {H:IH} {Γ:Ga} {w:World},ew P hint sf fi fn T ds u H=some (e,H')->Rh Γ H w->TR Γ w fi T tm->Mo Γ w ds ds'->rN Γ w u u'->Ext Γ0 H0 w0 Γ H w->
  LeavesInM Fence.wide 0 P fn tm (xg Γ0 H0 w0 e H') ds' u' w:=by
 induction ds with
 |nil=>
  intro ds' u u' H Γ w h hR hT hd hu hE;cases hd;unfold ew at h;cases hu with
  |returning=>
   simp only at h;split at h
   .rename_i v hv
    cases h;obtain ⟨v',h1,h2⟩:=Cr (P:=P) hR hT hv;exact ⟨v',h1,Γ,.returned h2,hR,hE⟩
   .cases h
  |@panicking v v' r hv=>cases r with
   |true=>cases h
   |false=>cases h;exact ⟨Γ,.panicked hv,hR,hE⟩
 |cons d ds ih=>
  intro ds' u u' H Γ w h hR hT hd hu hE;cases hd with
  |@cons _ d' _ ds' hd1 hds=>
  unfold ew at h;refine ⟨hu.SJ,?_⟩;rcases hd1 with ⟨r,ht,hdr',rfl⟩ |⟨fv,c,c',as',hpl,ht,rfl,hc,has⟩
  .rw [ht] at h
   simp only at h;split at h
   .rename_i hb
    split at h
    .rename_i hro
     left
     have hblk:w.heap[(Γ.φ r).1]? =some (.deferred (some [])):=hR.obj r _ hb;have hlt:=(Array.getElem?_eq_some_iff.1 hblk).1;have hs:eD w (w.putObj (Γ.φ r).1 (.deferred none)):=by
      intro b cs e f hb';refine ⟨cs,f,?_,rfl⟩;by_cases e1:b=(Γ.φ r).1
      .grind
      .rw [World.putObj_heap_other e1];exact hb'
     obtain ⟨hR1,hE1⟩:=hR.gS (w':=w.putObj (Γ.φ r).1 (.deferred none)) (.mg false) hb hro (by simp) rfl rfl rfl hs (fun x hx=>World.putObj_heap_other hx) (World.putObj_heap_same hlt);refine ⟨_,_,rfl,run_takeDeferred hblk,ih h hR1 (hT.ext hR hE1) (hds.mono (hE1.le hR) hE1.same) (hu.mono (hE1.le hR) hE1.same) (hE.trans hE1)⟩
    .cases h
   .cases h
  .rw [ht] at h
   exact absurd h (by simp)
theorem zg {hint:Hint} {sf:Self} (S:Sound P sf) (hen:Enters P sf) (hdr:qt P sf) (hng:lr P=true) {f:FuncId} {args:List Value} {args':Array Value} {e:End}
  (h:cX P hint sf f args H=some (e,H')) (hR:Rh Γ H w) (ha:bX Γ w args args'.toList):CallsIn Fence.wide 0 P f args' w (xg Γ H w e H'):=by
 unfold cX at h;split at h
 .rename_i fn hf
  split at h
  .rename_i c hb
   split at h
   case isFalse=>cases h
   rename_i hfit;refine callsIn_of_wp_marks hf hb trivial ?_;have hst:St Γ H w (pE hint f fn) (mK args) [] { tmps:=args'++Array.replicate (fn.ntmps - args'.size) Go.undef,defers:= [] }:=⟨hR,J2 rfl hfit ha,.nil⟩;cases hx:aK P sf (pE hint f fn) none c (mK args) H [] with
   |none=>grind
   |some rx=>
    rw [hx] at h;obtain ⟨ex,T1,H1,D1⟩:=rx;refine wpIn_mono (kC S hen hdr hng c hx (fun _ e=>by cases e) hst).1 ?_;rintro e1 a1 w1 ⟨Γ1,hx1,hst1,hE1⟩;simp only at hx1 hst1 hE1;cases hx1 with
    |normal=>exact ju S hen hdr hng D1 h hst1.rh hst1.tmps hst1.defs .returning hE1
    |ret=>exact ju S hen hdr hng D1 h hst1.rh hst1.tmps hst1.defs .returning hE1
    |panic hv=>exact ju S hen hdr hng D1 h hst1.rh hst1.tmps hst1.defs (.panicking hv) hE1
    |exit id=>cases h
  .cases h
 .cases h
theorem wD {hint:Hint} {sf:Self} {f:FuncId} {args:List Value} {e:End} (h:cX P hint sf f args H=some (e,H')):∃ fn c,P.funcs[f]? =some fn/\fn.body=some c:=by
 unfold cX at h
 grind
def qp (P:Program) (spec:Spec):Prop:=∀ {f:FuncId} {args:List Value} {H:IH} {e:End} {H':IH},spec f args H=some (e,H')->
 (∃ fn c,P.funcs[f]? =some fn/\fn.body=some c)/\∀ {Γ:Ga} {w:World} {args':Array Value},Rh Γ H w->bX Γ w args args'.toList->CallsIn Fence.wide 0 P f args' w (xg Γ H w e H')
theorem LV {hint:Hint} {spec:Spec} (hng:lr P=true) (hdr:∀ sf,Sound P sf->qt P sf) (hsp:qp P spec):∀ n,Sound P (ev P hint spec n)/\Enters P (ev P hint spec n):=by
 intro n
 induction n with
 |zero=>
  refine ⟨⟨?_,?_,?_⟩,?_⟩
  .intro fi ro c T H D r Γ w a h;cases h
  .intro fi ro c T H D r Γ w a h;cases h
  .intro f args H e H' Γ w args' h;cases h
  .intro f args H e H' h;cases h
 |succ n ih=>
  obtain ⟨S,hen⟩:=ih;have hd:qt P (ev P hint spec n):=fun h hro hst=>hdr _ S h hro hst
  refine ⟨⟨?_,?_,?_⟩,?_⟩
  .intro fi ro c T H D r Γ w a h hro hst;exact (kC S hen hd hng _ h hro hst).1
  .intro fi ro c T H D r Γ w a h hro hst;exact (kC S hen hd hng _ h hro hst).2 _ rfl
  .intro f args H e H' Γ w args' h hR ha
   have h':dQ P hint spec (ev P hint spec n) f args H=some (e,H'):=h;unfold dQ at h';split at h'
   .rename_i r hs;cases h';exact (hsp hs).2 hR ha
   .exact zg S hen hd hng h' hR ha
  .intro f args H e H' h
   have h':dQ P hint spec (ev P hint spec n) f args H=some (e,H'):=h;unfold dQ at h';split at h'
   .rename_i r hs;cases h';exact (hsp hs).1
   .exact wD h'
end Go.Iv
