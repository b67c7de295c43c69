/- What the evaluator says of code is so: exits, regions, calls. -/
import Derived.Test.YteknbnkjelmfaaaGreatDoorIvExt
import Derived.RangeFuncRecord
set_option linter.unusedSimpArgs false
set_option linter.unusedVariables false
namespace Go.Iv
open Go
variable {P:Program} {Γ Γ':Ga} {H H':IH} {w w':World}
def M1 (Γ:Ga) (w:World) (d d':Deferred):Prop:=
 (∃ r,d.target= .collected r/\Γ.aT r/\d'={ target:= .collected (Γ.φ r).1,args:=#[] })\/
 (∃ fn c c' as',fW fn=true/\d.target= .fn fn c/\d'={ target:= .fn fn c',args:=as' }/\bX Γ w c.toList c'.toList/\bX Γ w d.args.toList as'.toList)
theorem M1.mono (hg:Γ.le Γ') (hs:eD w w') {d d':Deferred} (h:M1 Γ w d d'):M1 Γ' w' d d':=by
 rcases h with ⟨r,h1,h2,rfl⟩ |⟨fn,c,c',as',h1,h2,rfl,h3,h4⟩
 .exact .inl ⟨r,h1,hg.aT r h2,by rw [hg.φ r h2]⟩
 .exact .inr ⟨fn,c,c',as',h1,h2,rfl,h3.mono hg hs,h4.mono hg hs⟩
inductive Mo (Γ:Ga) (w:World):List Deferred->List Deferred->Prop
 |nil:Mo Γ w [] []
 |cons {d d':Deferred} {l l':List Deferred} (h:M1 Γ w d d') (t:Mo Γ w l l'):Mo Γ w (d::l) (d'::l')
theorem Mo.mono (hg:Γ.le Γ') (hs:eD w w') {l l':List Deferred} (h:Mo Γ w l l'):Mo Γ' w' l l':=by
 induction h with
 |nil=>exact .nil
 |cons h _ ih=>exact .cons (h.mono hg hs) ih
inductive XR (Γ:Ga) (w:World):X->Exit->Prop
 |normal:XR Γ w .normal .normal
 |exit (id:Nat):XR Γ w (.exit id) (.exit id)
 |ret:XR Γ w .ret .ret
 |panic {v v':Value} (h:VR Γ w v v'):XR Γ w (.panic v) (.panic [{ v:=v',recovered:=false }])
structure St (Γ:Ga) (H:IH) (w:World) (fi:FI) (T:En) (D:List Deferred) (a:Act):Prop where
 rh:Rh Γ H w
 tmps:TR Γ w fi T a.tmps
 defs:Mo Γ w D a.defers
def iw (Γ:Ga) (H:IH) (w:World) (fi:FI) (r:X×En×IH×List Deferred) (e:Exit) (a:Act) (w':World):Prop:=
 ∃ Γ',XR Γ' w' r.1 e/\St Γ' r.2.2.1 w' fi r.2.1 r.2.2.2 a/\Ext Γ H w Γ' r.2.2.1 w'
theorem iw.after {fi:FI} {r:X×En×IH×List Deferred} {e:Exit} {a:Act} {w1:World} {Γ1:Ga} {H1:IH} (h:Ext Γ H w Γ1 H1 w1) (k:iw Γ1 H1 w1 fi r e a w'):iw Γ H w fi r e a w':=by
 obtain ⟨Γ',h1,h2,h3⟩:=k;exact ⟨Γ',h1,h2,h.trans h3⟩
theorem St.ext {fi:FI} {T:En} {D:List Deferred} {a:Act} (h:St Γ H w fi T D a) (hr:Rh Γ' H' w') (he:Ext Γ H w Γ' H' w'):St Γ' H' w' fi T D a:=
 ⟨hr,h.tmps.ext h.rh he,h.defs.mono (he.le h.rh) he.same⟩
inductive ER (Γ:Ga) (w:World):End->Ending->Prop
 |returned {v v':Value} (h:VR Γ w v v'):ER Γ w (.returned v) (.returned v')
 |panicked {v v':Value} (h:VR Γ w v v'):ER Γ w (.panicked v) (.panicked [{ v:=v',recovered:=false }])
def xg (Γ:Ga) (H:IH) (w:World) (e:End) (H':IH) (e':Ending) (w':World):Prop:=
 ∃ Γ',ER Γ' w' e e'/\Rh Γ' H' w'/\Ext Γ H w Γ' H' w'
def FO (Γ:Ga):Option Nat->Fence
 |none=>Fence.wide
 |some l=>Fence.wide.inRound (Γ.φ l).1
def pV (Γ:Ga) (ro:Option Nat):Prop:=∀ l,ro=some l->Γ.aT l
theorem pV.mono {ro:Option Nat} (h:pV Γ ro) (hg:Γ.le Γ'):pV Γ' ro:=fun l e=>hg.aT l (h l e)
theorem xv {ro:Option Nat} (hg:Γ.le Γ') (h:pV Γ ro):FO Γ' ro=FO Γ ro:=by
 cases ro with
 |none=>rfl
 |some l=>simp only [FO];rw [hg.φ l (h l rfl)]
theorem vB (ro:Option Nat) (f:FuncId):(FO Γ ro).fn f:=by cases ro<;>exact trivial
theorem oY (ro:Option Nat) (n:Nat):(FO Γ ro).depth.isSome=true->1<=n:=by cases ro<;>(intro h;cases h)
theorem El (ro:Option Nat) (l:Nat):(FO Γ ro).inRound (Γ.φ l).1=FO Γ (some l):=by cases ro<;>rfl
theorem CN {ro:Option Nat} {n:Nat} {f:FuncId} {args:Array Value} {R:Ending->World->Prop} (h:CallsIn Fence.wide n P f args w R):CallsIn (FO Γ ro) n P f args w R:=by
 cases ro<;>exact h
def BN (F:Fence) (n:Nat) (P:Program) (c:Code) (Q:Exit->Act->World->Prop) (a:Act) (w:World):Prop:=
 ∀ (b:Frame) (k:List Item) (cs:List Frame),b.roundOf=F.round->F.fn b.fn->F.room (cs.length+1+n)->
  ∃ e a' w',Q e a' w'/\ArrivesIn (Machine.fenced P F) P (lone (b.atR a (.code c:: .inLoop c::k)) cs w) b k cs e a' w'
structure Sound (P:Program) (sf:Self):Prop where
 code:∀ {ro:Option Nat} {c:Code} {fi:FI} {T:En} {H:IH} {D:List Deferred} {r:X×En×IH×List Deferred} {Γ:Ga} {w:World} {a:Act},
  sf.code fi ro c T H D=some r->pV Γ ro->St Γ H w fi T D a->c.wpIn (FO Γ ro) 0 P (iw Γ H w fi r) a w
 loop:∀ {ro:Option Nat} {c:Code} {fi:FI} {T:En} {H:IH} {D:List Deferred} {r:X×En×IH×List Deferred} {Γ:Ga} {w:World} {a:Act},
  sf.code fi ro (.loop c) T H D=some r->pV Γ ro->St Γ H w fi T D a->BN (FO Γ ro) 0 P c (iw Γ H w fi r) a w
 call:∀ {f:FuncId} {args:List Value} {H:IH} {e:End} {H':IH} {Γ:Ga} {w:World} {args':Array Value},
  sf.call f args H=some (e,H')->Rh Γ H w->bX Γ w args args'.toList->CallsIn Fence.wide 0 P f args' w (xg Γ H w e H')
theorem TR.put {fi:FI} {T:En} {a:Act} (h:TR Γ w fi T a.tmps) (dst:Option Tmp) {v v':Value} (hv:VR Γ w v v'):TR Γ w fi (dT fi T dst v) (a.put dst v').tmps:=by
 cases dst with
 |none=>exact h
 |some d=>exact h.set d hv
theorem St.put {fi:FI} {T:En} {D:List Deferred} {a:Act} (h:St Γ H w fi T D a) (dst:Option Tmp) {v v':Value} (hv:VR Γ w v v'):St Γ H w fi (dT fi T dst v) D (a.put dst v'):=
 ⟨h.rh,h.tmps.put dst hv,by cases dst<;>exact h.defs⟩
theorem xN {fi:FI} {ops:Array Oper} {T:En} {a:Act} {o:Oper} {b:Bool} (h:∀ g b,o.guard=some (g,b)->∀ t,(ops[g]?).bind (·.dst)=some t->VR Γ w (ft fi T t) (a.tmps.getD t Go.undef)) (hw:cg fi ops T o=some b):Region.wanted o (yielded ops a.tmps)=b:=by
 unfold cg at hw;unfold Region.wanted;cases hg:o.guard with
 |none=>grind
 |some p=>
  obtain ⟨j,want⟩:=p;rw [hg] at hw;simp only at hw ⊢;unfold yielded;cases hd:(ops[j]?).bind (·.dst) with
  |none=>grind
  |some d=>
   rw [hd] at hw;simp only [zaa] at hw ⊢;have h2:=h j want hg d hd;have e:a.tmps.getD d Go.undef=(a.tmps[d]?).getD Go.undef:=by rw [Array.getD_eq_getD_getElem?]
   rw [e] at h2;cases hT:a.tmps[d]? with
   |none=>
    rw [hT] at h2;simp only [Option.getD_none] at h2;generalize hl:ft fi T d=l at hw h2;cases h2 with
    |tuple=>cases hw;simp
    |aO=>simp at hw
   |some v'=>
    rw [hT] at h2;simp only [Option.getD_some] at h2;generalize hl:ft fi T d=l at hw h2;cases h2 with
    |bool b=>simp_all
    |Bk=>simp at hw
    |aO=>simp at hw
    |_=>grind
theorem xD {fi:FI} {ops:Array Oper} {T:En} {a:Act} (h:TR Γ w fi T a.tmps) {o:Oper} {b:Bool} (hw:cg fi ops T o=some b):Region.wanted o (yielded ops a.tmps)=b:=
 xN (fun _ _ _ t _=>h.get t) hw
def Ts (Γ:Ga) (H:IH) (w:World) (a:Act) (o:Oper) (next:Act->World->Prop) (Q:Exit->Act->World->Prop):az->Prop
 | .val v H1=>∀ Γ1 w1 v',VR Γ1 w1 v v'->Rh Γ1 H1 w1->Ext Γ H w Γ1 H1 w1->next (a.put o.dst v') w1
 | .skip H1=>∀ Γ1 w1,Rh Γ1 H1 w1->Ext Γ H w Γ1 H1 w1->next (a.put o.dst Go.undef) w1
 | .defer d H1=>∀ d',H1=H->M1 Γ w d d'->next ({ a with defers:=d'::a.defers }.put o.dst Go.undef) w
 | .panic v H1=>∀ Γ1 w1 v',VR Γ1 w1 v v'->Rh Γ1 H1 w1->Ext Γ H w Γ1 H1 w1->Q (.panic [{ v:=v',recovered:=false }]) a w1
theorem yd {F:Fence} {o:Oper} {a:Act} {next:Act->World->Prop} {Q:Exit->Act->World->Prop} {rr:Result Next} {res:az} (hg:Good Γ H w rr res) (hk:Ts Γ H w a o next Q res):
  o.uponIn F 0 P a next Q rr:=by
 cases res with
 |val v H1=>obtain ⟨v',w',Γ',rfl,h1,h2,h3⟩:=hg;exact hk Γ' w' v' h1 h2 h3
 |skip H1=>obtain ⟨w',Γ',rfl,h1,h2⟩:=hg;exact hk Γ' w' h1 h2
 |panic v H1=>obtain ⟨v',w',Γ',rfl,h1,h2,h3⟩:=hg;exact hk Γ' w' v' h1 h2 h3
 |defer d H1=>
  obtain ⟨rfl,fn,c,c',as,as',h1,rfl,rfl,h2,h3⟩:=hg;exact hk _ rfl (.inr ⟨fn,c,c',as',h1,rfl,rfl,h2,h3⟩)
theorem vg {ro:Option Nat} {o:Oper} {ρ:Operand->Value} (h:(∀ c,o.op≠ .defer c)\/ro=none):o.semAt (FO Γ ro).round ρ=execOp ρ o:=by
 rcases h with h |rfl
 .exact Oper.semAt_eq _ _ _ h
 .rfl
def lr (P : Program) : Bool := P.funcs.all fun fn => fn.name != "runtime.NumGoroutine"
theorem lQ (hng:lr P=true) {f:FuncId} {fn:Func} {c:Code} (hf:P.funcs[f]? =some fn) (hb:fn.body=some c) (args:Array Value) (w:World):
  (callFunc f args).run P w= .ok (.enter f args) w:=by
 have hn : fn.name ≠ "runtime.NumGoroutine" := by
  obtain ⟨hlt,rfl⟩:=Array.getElem?_eq_some_iff.1 hf;have:=Array.all_eq_true.1 hng f hlt;simpa using this
 simp [callFunc,hf,hb,hn]
theorem yT {sf:Self} (S:Sound P sf) (hng:lr P=true) {ro:Option Nat} (hR:Rh Γ H w) {fv fv':Value} {args:List Value} {args':Array Value} {e:End} {H':IH} {a:Act} {o:Oper} {next:Act->World->Prop} {Q:Exit->Act->World->Prop}
  (h:ij P sf H fv args=some (e,H')) (hf:VR Γ w fv fv') (ha:bX Γ w args args'.toList)
  (hk:∀ res,nO (some (e,H'))=some res->Ts Γ H w a o next Q res):
  o.uponIn (FO Γ ro) 0 P a next Q ((do let d ←Deferred.ofValue fv' args';invoke d.target d.args:Sem Next).run P w):=by
 unfold ij at h;split at h
 .rename_i f first captured
  obtain ⟨a1,c1,rfl,h1,h2⟩:=hf.Gq rfl;have hargs:bX Γ w (first.toList++args++captured.toList) (a1++args'++c1).toList:=by simpa using (h1.append ha).append h2
  have hrun:(do let d ←Deferred.ofValue (.func (.func f) a1 c1) args';invoke d.target d.args:Sem Next).run P w=(callFunc f (a1++args'++c1)).run P w:=by
   simp [Deferred.ofValue,invoke]
  rw [hrun];split at h
  .rename_i fn hfn
   split at h
   .rename_i hb
    split at h
    .rename_i v H1 hx
     cases h;exact yd (wC hR hx hfn hb hargs) (hk _ rfl)
    .cases h
   .rename_i c hb
    rw [lQ hng hfn hb,Oper.uponIn_enter];refine ⟨oY _ _,CN ((S.call h hR hargs).mono ?_)⟩;rintro e1 w1 ⟨Γ1,he,hR1,hE1⟩;cases he with
    |returned hv=>exact hk _ rfl Γ1 w1 _ hv hR1 hE1
    |panicked hv=>exact hk _ rfl Γ1 w1 _ hv hR1 hE1
  .cases h
 .cases h
theorem TR.args {fi:FI} {ps:List Tmp}:∀ {args args':List Value},bX Γ w args args'->∀ {E:En} {tm:Array Value},TR Γ w fi E tm->
  TR Γ w fi (kP fi ps args E) ((ps.zip args').foldl (fun (tmps:Array Value) (t,a)=>tmps.setIfInBounds t a) tm):=by
 induction ps with
 |nil=>intro args args' _ E tm h;exact h
 |cons p ps ih=>
  intro args args' ha E tm h;cases ha with
  |nil=>exact h
  |cons hv ht=>exact ih ht (h.set p hv)
theorem pO (hR:Rh Γ H w) {l:Nat} {st:LoopState} {pd:Option Code} {fi:FI} {E:En} {ps:List Tmp} {eo body:Code} (hl:H.get l=some (.loop st pd fi E ps eo body)) (hro:ep<=l) (st':LoopState) (pd':Option Code):
  ∃ r,w.heap[(Γ.φ l).1]? =some (.loop r)/\r.state=st/\r.pending=pd/\r.params=ps.toArray/\r.assign=eo/\r.body=body/\TR Γ w fi E r.tmps/\
   Rh Γ (H.put l (.loop st' pd' fi E ps eo body)) (w.putObj (Γ.φ l).1 (.loop { r with state:=st',pending:=pd' }))/\
   Ext Γ H w Γ (H.put l (.loop st' pd' fi E ps eo body)) (w.putObj (Γ.φ l).1 (.loop { r with state:=st',pending:=pd' })):=by
 obtain ⟨fn,tm,df,h1,h2⟩:=hR.obj l _ hl;refine ⟨_,h1,rfl,rfl,rfl,rfl,rfl,h2,?_⟩;have hlt:=(Array.getElem?_eq_some_iff.1 h1).1;have hs:eD w (w.putObj (Γ.φ l).1 (.loop { state:=st',pending:=pd',fn,tmps:=tm,params:=ps.toArray,assign:=eo,body,defers:=df })):=by
  intro b cs e f hb;refine ⟨cs,f,?_,rfl⟩;by_cases e1:b=(Γ.φ l).1
  .grind
  .rw [World.putObj_heap_other e1];exact hb
 exact hR.gS _ hl hro (by simp) rfl rfl rfl hs (fun x hx=>World.putObj_heap_other hx)
  ⟨fn,tm,df,World.putObj_heap_same hlt,h2.mono (.refl Γ) hs⟩
theorem By {sf:Self} (S:Sound P sf) {ro:Option Nat} (hR:Rh Γ H w) {l:Nat} {args:List Value} {args':Array Value} {v:Value} {H':IH} {a:Act} {o:Oper} {next:Act->World->Prop} {Q:Exit->Act->World->Prop}
  (h:fT sf l args H=some (v,H')) (hd:Γ.aT l) (ha:bX Γ w args args'.toList) (hk:Ts Γ H w a o next Q (.val v H')):
  o.uponIn (FO Γ ro) 0 P a next Q ((Instr.yield (Γ.φ l).1 args').run P w):=by
 unfold fT at h;split at h
 .rename_i pd fi E ps eo body hl
  split at h
  .rename_i hc
   simp only [zae,decide_eq_true_eq,beq_iff_eq] at hc;obtain ⟨hro,hlen⟩:=hc;split at h
   .rename_i E1 H1 h1
    split at h
    .rename_i pd1 fi1 F1 ps1 asg1 body1 hl1
     split at h
     .rename_i x T2 H2 h2
      split at h
      .rename_i st2 pd2 fi2 F2 ps2 asg2 body2 hl2
       obtain ⟨r,hr,hr1,hr2,hr3,hr4,hr5,hr6, -, -⟩:=pO hR hl hro .busy none;have hy:=run_yield (P:=P) (args:=args') hr (by rw [hr3];have:=ha.length;grind);rw [hy,Oper.uponIn_round];refine ⟨oY _ _,roundIn_of_wpIn (vB _ _) ?_⟩;rw [El,hr4,hr5];have hst:St Γ H w fi (kP fi ps args E) [] { tmps:=(r.params.zip args').foldl (fun tmps (t,a)=>tmps.setIfInBounds t a) r.tmps,defers:= [] }:=by
        refine ⟨hR,?_,.nil⟩;have:=TR.args (ps:=ps) ha hr6;rw [hr3];rw [←Array.foldl_toList];simpa using this
       have hrook:pV Γ (some l):=fun _ e=>by cases e;exact hd
       refine wpIn_mono (S.code h1 hrook hst) ?_;rintro e1 a1 w1 ⟨Γ1,hx1,hst1,hE1⟩;cases hx1;have hle1:=hE1.le hR;have hφ:(Γ.φ l).1=(Γ1.φ l).1:=by rw [hle1.φ l hd]
       obtain ⟨r1,hr1',hs1,hp1, -, -, -, -,hR1',hE1'⟩:=pO hst1.rh hl1 hro .busy pd1;refine ⟨_,by rw [hφ];exact run_beginRound hr1' hs1,?_⟩;have hr1e:({ r1 with state:= .busy }:Loop)={ r1 with state:= .busy,pending:=pd1 }:=by rw [←hp1]
       rw [hr1e,hφ,←show FO Γ1 (some l)=FO Γ (some l) from xv hle1 hrook];have hst2:=hst1.ext hR1' hE1';refine wpIn_mono (S.code h2 (hrook.mono hle1) hst2) ?_;rintro e2 a2 w3 ⟨Γ2,hx2,hst3,hE2⟩;have hle2:=hE2.le hR1';have hφ2:(Γ1.φ l).1=(Γ2.φ l).1:=by rw [hle2.φ l (hle1.aT l hd)]
       have hEE:=(hE1.trans hE1').trans hE2
       have fin:∀ (jump:Option Code),v= .bool jump.isNone->H'=H2.put l (.loop (if jump.isNone then .ready else .done) jump fi2 F2 ps2 asg2 body2)->
         ∃ v' w',(Instr.endRound (Γ1.φ l).1 jump).run P w3= .ok v' w'/\next (a.put o.dst v') w':=by
        rintro jump rfl rfl;obtain ⟨r2,hr2, -, -, -, -, -, -,hR2,hE3⟩:=pO hst3.rh hl2 hro (if jump.isNone then .ready else .done) jump;exact ⟨_,_,by rw [hφ2];exact run_endRound jump hr2,hk _ _ _ (.bool _) hR2 (hEE.trans hE3)⟩
       cases hx2 with
       |normal=>cases h;exact fin none rfl rfl
       |ret=>cases h;exact fin (some .ret) rfl rfl
       |exit id=>cases h;exact fin (some (.exit id)) rfl rfl
       |panic=>cases h
      .cases h
     .cases h
    .cases h
   .cases h
  .cases h
 .cases h
theorem Ci {f:Value} {args:List Value} {res:az} (h:oJ H f args=some res):∃ d H1,res= .defer d H1:=by
 unfold oJ at h
 grind
theorem lB {sf:Self} (S:Sound P sf) (hng:lr P=true) {ro:Option Nat} {ρ:Operand->Value} {a:Act} (hR:Rh Γ H w) (hv:∀ x,VR Γ w (ρ x) (a.eval x)) {o:Oper} {res:az} (h:aG P sf ρ H o=some res)
  (hd:∀ d H1,res= .defer d H1->ro=none) {next:Act->World->Prop} {Q:Exit->Act->World->Prop} (hk:Ts Γ H w a o next Q res):o.wpIn (FO Γ ro) 0 P a w next Q:=by
 refine ⟨fun f _=>vB _ f,?_⟩;by_cases hp:iX o=true
 .have hsem:(∀ c,o.op≠ .defer c)\/ro=none:=by
   cases ho:o.op with
   |defer c=>
    right
    unfold aG at h;rw [ho] at h;simp only at h;split at h
    .obtain ⟨d,H1,rfl⟩:=Ci h;exact hd _ _ rfl
    .cases h
   |_=>grind
  rw [vg hsem];exact yd (yA hR hv hp h) hk
 .cases ho:o.op with
  |call c=>
   have hsem:∀ c,o.op≠ .defer c:=by rw [ho];intro c e;cases e
   rw [vg (.inl hsem)];unfold aG at h;rw [ho] at h;simp only at h;unfold dt at h;simp only at h;have hargs:bX Γ w (c.args.toList.map ρ) (c.args.map a.eval).toList:=by simpa using bX.eK hv c.args.toList
   split at h
   .rename_i b hc;exact absurd (by simp [iX,ho,hc]) hp
   .rename_i f hc
    have hf:=hv f;have hrun:(execOp a.eval o).run P w=(do let d ←Deferred.ofValue (a.eval f) (c.args.map a.eval);invoke d.target d.args:Sem Next).run P w:=by
     simp only [execOp,ho,resolve,hc]
    rw [hrun];split at h
    .rename_i l first captured hfv
     rw [hfv] at hf;split at h
     .rename_i v H1 hy
      cases h;obtain ⟨-, -,hdl,e⟩:=hf.N2;have:=By (ro:=ro) S hR hy hdl hargs hk;simpa [e,Deferred.ofValue,invoke] using this
     .cases h
    .cases he:ij P sf H (ρ f) (c.args.toList.map ρ) with
     |none=>rw [he] at h;cases h
     |some p=>
      obtain ⟨e,H1⟩:=p;rw [he] at h;exact yT S hng hR he hf hargs fun res' hr=>by
       grind
   .cases h
  |_=>exact absurd (by simp [iX,ho]) hp
theorem CY {sf:Self} (S:Sound P sf) (hng:lr P=true) {fi:FI} {ro:Option Nat} {ops:Array Oper} {r:X×En×IH×List Deferred} (l:List Oper):
  ∀ (is:List Nat) (T:En) (H:IH) (D:List Deferred) (a:Act) (w:World) (Γ:Ga) (Q:Exit->Act->World->Prop),is.map (ops[·]?)=l.map some->gE P sf fi ro ops l T H D=some r->pV Γ ro->St Γ H w fi T D a->
  (∀ e a' w',iw Γ H w fi r e a' w'->Q e a' w')->wpOpsIn (FO Γ ro) 0 P ops Q is a w:=by
 induction l with
 |nil=>
  intro is T H D a w Γ Q his h hro hst hq;have:is= []:=by simpa using his
  subst this;cases h;exact hq _ _ _ ⟨Γ,.normal,hst,.refl Γ H w⟩
 |cons o l ih=>
  intro is T H D a w Γ Q his h hro hst hq;cases is with
  |nil=>cases his
  |cons i is=>
   simp only [List.map_cons,List.cons.injEq] at his;obtain ⟨hi,his⟩:=his;simp only [wpOpsIn,hi];unfold gE at h;split at h
   .rename_i hw
    rw [xD hst.tmps hw,if_pos rfl];have next:∀ {T':En} {H1:IH} {D1:List Deferred} {a':Act} {Γ1:Ga} {w1:World},gE P sf fi ro ops l T' H1 D1=some r->St Γ1 H1 w1 fi T' D1 a'->Ext Γ H w Γ1 H1 w1->wpOpsIn (FO Γ ro) 0 P ops Q is a' w1:=by
     intro T' H1 D1 a' Γ1 w1 h1 hst1 hE;have hle:=hE.le hst.rh;have:=ih is T' H1 D1 a' w1 Γ1 Q his h1 (hro.mono hle) hst1 fun e a' w' hp=>hq e a' w' (hp.after hE)
     rwa [xv hle hro] at this
    split at h
    .rename_i v H1 ho
     exact lB S hng hst.rh (VR.eQ hst.rh hst.tmps) ho (fun d H1 e=>by cases e) fun Γ1 w1 v' hv hR1 hE=>next h ((hst.ext hR1 hE).put o.dst hv) hE
    .rename_i H1 ho
     exact lB S hng hst.rh (VR.eQ hst.rh hst.tmps) ho (fun d H1 e=>by cases e) fun Γ1 w1 hR1 hE=>next h ((hst.ext hR1 hE).put o.dst .undef) hE
    .rename_i d H1 ho
     split at h
     .rename_i hn
      refine lB S hng hst.rh (VR.eQ hst.rh hst.tmps) ho (fun d H1 e=>by simpa using hn) fun d' e hdr=>?_
      subst e;refine next h (St.put (a:={ a with defers:=d'::a.defers }) ⟨hst.rh,hst.tmps,.cons hdr hst.defs⟩ o.dst .undef) (.refl _ _ _)
     .cases h
    .rename_i v H1 ho
     cases h;exact lB S hng hst.rh (VR.eQ hst.rh hst.tmps) ho (fun d H1 e=>by cases e) fun Γ1 w1 v' hv hR1 hE=>hq _ _ _ ⟨Γ1,.panic hv,hst.ext hR1 hE,hE⟩
    .cases h
   .rename_i hw
    rw [xD hst.tmps hw,if_neg (by simp)];exact ⟨fun f _=>vB _ f,ih is _ _ _ _ _ _ _ his h hro (hst.put o.dst .undef) hq⟩
   .cases h
theorem Ir (ops:Array Oper):(List.range ops.size).map (ops[·]?)=ops.toList.map some:=by
 apply List.ext_getElem?
 grind
end Go.Iv
