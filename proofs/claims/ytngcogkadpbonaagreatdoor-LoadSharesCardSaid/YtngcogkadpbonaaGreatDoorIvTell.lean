/- Calls that have been run once are told: on a heap that holds what the call looked at, it ends so, and leaves the rest. -/
import Derived.Test.YtngcogkadpbonaaGreatDoorIvRowF
set_option linter.unusedSimpArgs false
set_option linter.unusedVariables false
namespace Go.Iv
open Go
variable {P:Program}
def sS:List UInt8->List UInt8->Bool
 | [],[]=>true
 |a::r,b::s=>bif Nat.beq a.toNat b.toNat then sS r s else false
 |_,_=>false
theorem Eo:∀ {l r:List UInt8},sS l r=true->l=r:=by
 intro l
 induction l with
 |nil=>intro r h;cases r with
  |nil=>rfl
  |cons=>cases h
 |cons a l ih=>
  intro r h;cases r with
  |nil=>cases h
  |cons b r=>
   unfold sS at h;cases hb:Nat.beq a.toNat b.toNat with
   |false=>rw [hb] at h;cases h
   |true=>rw [hb] at h;rw [ih h,UInt8.toNat_inj.1 (Nat.eq_of_beq_eq_true hb)]
def sP (a b:Option Addr):Bool:=match a,b with
 |none,none=>true
 |some ⟨x,o,none⟩,some ⟨y,q,none⟩=>Nat.beq x y &&Nat.beq o q
 |_,_=>false
theorem nU {a b:Option Addr} (h:sP a b=true):a=b:=by
 unfold sP at h;split at h
 ·rfl
 ·rw [zaa] at h
  rw [Nat.eq_of_beq_eq_true h.1,Nat.eq_of_beq_eq_true h.2]
 ·cases h
def zw (a b:Value):Bool:=match a,b with
 | .chan (some 0),_=>true
 | .bool x,.bool y=>decide (x=y)
 | .int k x,.int l y=>decide (k=l) &&decide (x=y)
 | .string ⟨⟨x⟩⟩,.string ⟨⟨y⟩⟩=>sS x y
 | .pointer x,.pointer y=>sP x y
 | .slice x l c,.slice y l' c'=>sP x y &&(Nat.beq l l' &&Nat.beq c c')
 | .nilFunc,.nilFunc=>true
 | .nilIface,.nilIface=>true
 | .map none,.map none=>true
 | .map (some x),.map (some y)=>Nat.beq x y
 |_,_=>false
theorem PC {a b:Value} (h:zw a b=true):a= .chan (some 0)∨a=b:=by
 unfold zw at h;split at h
 ·exact .inl rfl
 ·rw [of_decide_eq_true h];exact .inr rfl
 ·rw [zaa] at h
  rw [of_decide_eq_true h.1,of_decide_eq_true h.2];exact .inr rfl
 ·rw [Eo h];exact .inr rfl
 ·rw [nU h];exact .inr rfl
 ·simp only [zaa] at h
  rw [nU h.1,Nat.eq_of_beq_eq_true h.2.1,Nat.eq_of_beq_eq_true h.2.2];exact .inr rfl
 ·exact .inr rfl
 ·exact .inr rfl
 ·exact .inr rfl
 ·rw [Nat.eq_of_beq_eq_true h];exact .inr rfl
 ·cases h
def HM (le:Value->Value->Bool):List Value->List Value->Bool
 | [],[]=>true
 |a::r,b::s=>bif le a b then HM le r s else false
 |_,_=>false
def VQ (a b:Value):Bool:=bif zw a b then true else match a,b with
 | .agg ⟨x⟩,.agg ⟨y⟩=>HM zw x y
 |_,_=>false
theorem aO.le {Γ:Ga} {w:World} {le:Value->Value->Bool} (hle:∀ {a b v},le a b=true->VR Γ w b v->VR Γ w a v):∀ {l r s:List Value},HM le l r=true->aO Γ w r s->aO Γ w l s:=by
 intro l
 induction l with
 |nil=>intro r s h hr;cases r with
  |nil=>exact hr
  |cons=>cases h
 |cons a l ih=>
  intro r s h hr;cases r with
  |nil=>cases h
  |cons b r=>
   unfold HM at h;cases hb:le a b with
   |false=>rw [hb] at h;cases h
   |true=>rw [hb] at h;cases hr with
    |cons h1 h2=>exact .cons (hle hb h1) (ih h h2)
theorem VR.Wt {Γ:Ga} {w:World} {a b v:Value} (h:zw a b=true) (hv:VR Γ w b v):VR Γ w a v:=by
 rcases PC h with rfl |rfl
 ·exact .ay v
 ·exact hv
theorem VR.le {Γ:Ga} {w:World} {a b v:Value} (h:VQ a b=true) (hv:VR Γ w b v):VR Γ w a v:=by
 unfold VQ at h;cases h0:zw a b with
 |true=>exact hv.Wt h0
 |false=>
  rw [h0] at h;simp only [cond_false] at h;split at h
  ·cases hv with
   |agg ha=>exact .agg (aO.le (fun h v=>VR.Wt h v) h ha)
  ·cases h
def SN (a b:aq):Bool:=match a,b with
 | .cells cs e fz ex sh,.cells cs' e' fz' ex' sh'=>HM VQ cs cs' &&(Nat.beq e e' &&(Nat.beq fz fz' &&(decide (ex=ex') &&decide (sh=sh'))))
 |_,_=>false
theorem sW {le:Value->Value->Bool}:∀ {l r:List Value},HM le l r=true->l.length=r.length:=by
 intro l
 induction l with
 |nil=>intro r h;cases r with
  |nil=>rfl
  |cons=>cases h
 |cons a l ih=>
  intro r h;cases r with
  |nil=>cases h
  |cons b r=>
   unfold HM at h;cases hb:le a b with
   |false=>rw [hb] at h;cases h
   |true=>rw [hb] at h;simp [ih h]
theorem QS {le:Value->Value->Bool}:∀ {l r:List Value},HM le l r=true->∀ (i:Nat) (v:Value),l[i]? =some v->∃ u,r[i]? =some u/\le v u=true:=by
 intro l
 induction l with
 |nil=>intro r _ i v h;simp at h
 |cons a l ih=>
  intro r h i v hv;cases r with
  |nil=>cases h
  |cons b r=>
   unfold HM at h;cases hb:le a b with
   |false=>rw [hb] at h;cases h
   |true=>
    rw [hb] at h;cases i with
    |zero=>simp at hv;subst hv;exact ⟨b,by simp,hb⟩
    |succ i=>simp at hv;obtain ⟨u,h1,h2⟩:=ih h i v hv;exact ⟨u,by simpa using h1,h2⟩
theorem bJ.le {Γ:Ga} {w:World} {b:Nat} {o o':aq} (h:SN o o'=true) (ho:bJ Γ w b o'):bJ Γ w b o:=by
 unfold SN at h;split at h
 ·simp only [zaa,decide_eq_true_eq] at h
  obtain ⟨h1,h2,h3,rfl,rfl⟩:=h;have h2':=Nat.eq_of_beq_eq_true h2;have h3':=Nat.eq_of_beq_eq_true h3;subst h2' h3';obtain ⟨cs',lo,hi,hc⟩:=ho;refine ⟨cs',lo,hi,hc.block,by rw [sW h1];exact hc.room,fun i v hv=>?_,fun hx=>by rw [sW h1];exact hc.dK hx,hc.frozen,hc.oK⟩;obtain ⟨u,hu,hl⟩:=QS h1 i v hv;obtain ⟨v',q1,q2⟩:=hc.cell i u hu;exact ⟨v',q1,q2.le hl⟩
 ·cases h
noncomputable def sn:List (Nat×aq)->IH->IH
 | [],H=>H
 |x::r,H=>sn r (H.put x.1 x.2)
noncomputable def QD:List (Nat×aq)->IH->IH
 | [],H=>H
 |x::r,H=>QD r (H.del x.1)
noncomputable def By:List (Nat×aq)->IH->Bool
 | [],_=>true
 |x::r,H=>match H.get x.1 with
  |some o=>bif SN x.2 o then By r H else false
  |none=>false
theorem rp:∀ {l:List (Nat×aq)} {H:IH},By l H=true->∀ k o,(k,o)∈l->∃ o',H.get k=some o'/\SN o o'=true:=by
 intro l
 induction l with
 |nil=>intro H _ k o h;cases h
 |cons x l ih=>
  intro H h k o hm;unfold By at h;split at h
  ·rename_i o' ho
   cases hb:SN x.2 o' with
   |false=>rw [hb] at h;cases h
   |true=>
    rw [hb] at h;rcases List.mem_cons.1 hm with rfl |hm
    ·exact ⟨o',ho,hb⟩
    ·exact ih h k o hm
  ·cases h
theorem HO:∀ (l:List (Nat×aq)) (H:IH),(sn l H).n=H.n:=by
 intro l
 induction l with
 |nil=>intro H;rfl
 |cons x l ih=>intro H;unfold sn;rw [ih];rfl
theorem kf:∀ (l:List (Nat×aq)) (H:IH) (k:Nat) (o:aq),(sn l H).get k=some o->(k,o)∈l∨H.get k=some o/\∀ q,(k,q)∉l:=by
 intro l
 induction l with
 |nil=>intro H k o h;exact .inr ⟨h,fun q hq=>by cases hq⟩
 |cons x l ih=>
  intro H k o h;unfold sn at h;rcases ih _ k o h with h |⟨h,h2⟩
  ·exact .inl (List.mem_cons_of_mem _ h)
  ·rw [IH.bg] at h
   by_cases e:k=x.1
   ·rw [if_pos e] at h
    cases h;exact .inl (by rw [e];exact List.mem_cons_self ..)
   ·rw [if_neg e] at h
    refine .inr ⟨h,fun q hq=>?_⟩;rcases List.mem_cons.1 hq with rfl |hq
    ·exact e rfl
    ·exact h2 q hq
theorem IY:∀ (l:List (Nat×aq)) (H:IH) (k:Nat) (o:aq),(QD l H).get k=some o->H.get k=some o/\∀ q,(k,q)∉l:=by
 intro l
 induction l with
 |nil=>intro H k o h;exact ⟨h,fun q hq=>by cases hq⟩
 |cons x l ih=>
  intro H k o h;unfold QD at h;obtain ⟨h,h2⟩:=ih _ k o h;rw [IH.ji] at h;by_cases e:k=x.1
  ·rw [if_pos e] at h;cases h
  ·rw [if_neg e] at h
   refine ⟨h,fun q hq=>?_⟩;rcases List.mem_cons.1 hq with rfl |hq
   ·exact e rfl
   ·exact h2 q hq
structure ae where
 f0:Nat
 a0:List Value
 n0:Nat
 h0:List (Nat×aq)
 e:End
 n1:Nat
 h1:List (Nat×aq)
noncomputable def ae.start (T:ae):IH:=sn T.h0 ⟨.nil,T.n0⟩
noncomputable def ae.after (T:ae) (H:IH):IH:=sn T.h1 ⟨(QD T.h0 H).t,T.n1⟩
noncomputable def ae.spec (T:ae):Spec:=fun f args H=>
 bif Nat.beq f T.f0 then (bif HM VQ T.a0 args then (bif Nat.beq H.n T.n0 then (bif By T.h0 H then some (T.e,T.after H) else none) else none) else none) else none
noncomputable def ae.run (T:ae) (sf:Self):Option (End×Bool):=match sf.call T.f0 T.a0 T.start with
 |some (e,H)=>some (e,Nat.ble dB T.n0 &&(Nat.beq H.n T.n1 &&By T.h1 H))
 |none=>none
theorem ae.ok {hint:Hint} {spec:Spec} (hm:P.follows .mixedOrders=true) (hng:dd P=true) (hsp:ab P spec) {n:Nat} (T:ae) (hb:((P.funcs[T.f0]?).bind (·.body)).isSome=true) (h:T.run (aj P hint spec n)=some (T.e,true)):ab P T.spec:=by
 intro f args H e H' hs;unfold ae.spec at hs;cases hf:Nat.beq f T.f0 with
 |false=>rw [hf] at hs;cases hs
 |true=>
 have:=Nat.eq_of_beq_eq_true hf;subst this;cases ha:HM VQ T.a0 args with
 |false=>rw [hf,ha] at hs;cases hs
 |true=>
 cases hn:Nat.beq H.n T.n0 with
 |false=>rw [hf,ha,hn] at hs;cases hs
 |true=>
 cases hh:By T.h0 H with
 |false=>rw [hf,ha,hn,hh] at hs;cases hs
 |true=>
 rw [hf,ha,hn,hh] at hs;cases hs;have hn0:=Nat.eq_of_beq_eq_true hn;refine ⟨?_,?_⟩
 ·cases hfn:P.funcs[T.f0]? with
  |none=>rw [hfn] at hb;cases hb
  |some fn=>
   rw [hfn] at hb;simp only [Option.bind_some] at hb;cases hc:fn.body with
   |none=>rw [hc] at hb;cases hb
   |some c=>exact ⟨fn,c,rfl,hc⟩
 intro Γ w args' hR hA;unfold ae.run at h;rw [ss] at h;cases hc:(ev P hint spec n).call T.f0 T.a0 T.start with
 |none=>rw [hc] at h;cases h
 |some p=>
 obtain ⟨e,Hr⟩:=p;rw [hc] at h;simp only [Option.some.injEq,Prod.mk.injEq,zaa] at h;obtain ⟨rfl,_,h2,h3⟩:=h;have hn1:=Nat.eq_of_beq_eq_true h2;have sub0:=rp hh;have sub1:=rp h3;have get0:∀ k o,T.start.get k=some o->(k,o)∈T.h0:=fun k o hk=>by
  rcases kf _ _ _ _ hk with h |⟨h,_⟩
  ·exact h
  ·rw [IH.get_eq] at h;cases h
 have st0:T.start.n=H.n:=by unfold ae.start;rw [HO];exact hn0.symm
 have big0:∀ k o,T.start.get k=some o->∃ o',H.get k=some o'/\SN o o'=true:=fun k o hk=>sub0 k o (get0 k o hk)
 have hR0:Rh Γ T.start w:=by
  refine ⟨fun b hb=>by rw [st0];exact hR.aG b hb,by rw [st0];exact hR.ro,hR.cM,fun b o hb=>?_,fun b b' o o' hr hb hb' e=>?_,fun b o hb=>?_⟩
  ·obtain ⟨o',h1,_⟩:=big0 b o hb;exact hR.live b o' h1
  ·obtain ⟨o1,h1,_⟩:=big0 b o hb
   obtain ⟨o2,h2,_⟩:=big0 b' o' hb';exact hR.inj b b' o1 o2 hr h1 h2 e
  ·obtain ⟨o',h1,h2⟩:=big0 b o hb
   exact (hR.obj b o' h1).le h2
 have hA0:aO Γ w T.a0 args'.toList:=aO.le (fun h v=>VR.le h v) ha hA;refine ((gG hng (jE hm hng) hsp n).1.call hc hR0 hA0).mono ?_;rintro e1 w1 ⟨Γ1,he,hr1,hE⟩;refine ⟨Γ1,he,?_⟩;have an:(T.after H).n=Hr.n:=by unfold ae.after;rw [HO];exact hn1.symm
 have le1:=hE.le hR0;have geta:∀ k o,(T.after H).get k=some o->(∃ o',Hr.get k=some o'/\SN o o'=true)∨(H.get k=some o/\∀ q,(k,q)∉T.h0):=fun k o hk=>by
  unfold ae.after at hk;rcases kf _ _ _ _ hk with h |⟨h,_⟩
  ·exact .inl (sub1 k o h)
  ·exact .inr (IY T.h0 H k o h)
 have img0:∀ b,iu Γ T.start b->iu Γ H b:=fun b ⟨i,o,h1,h2,h3⟩=>by
  obtain ⟨o',h4,_⟩:=big0 i o h2;exact ⟨i,o',h1,h4,h3⟩
 have apart:∀ k o,H.get k=some o->(∀ q,(k,q)∉T.h0)->¬ iu Γ T.start (Γ.φ k).1:=fun k o hk hq ⟨i,x,h1,h2,h3⟩=>by
  obtain ⟨o',h4,_⟩:=big0 i x h2;have:=hR.inj i k o' o h1 h4 hk h3;subst this;exact hq x (get0 i x h2)
 have phi:∀ k o,H.get k=some o->Γ1.φ k=Γ.φ k:=fun k o hk=>le1.φ k (hR.live k o hk)
 refine ⟨⟨fun b hb=>by rw [an];exact hr1.aG b hb,by rw [an];exact hr1.ro,hr1.cM,fun b o hb=>?_,fun b b' o o' hro hb hb' e=>?_,fun b o hb=>?_⟩,?_⟩
 ·rcases geta b o hb with ⟨o',h,_⟩ |⟨h,_⟩
  ·exact hr1.live b o' h
  ·exact le1.aG b (hR.live b o h)
 ·rcases geta b o hb with ⟨o1,h1,_⟩ |⟨h1,k1⟩
  ·rcases geta b' o' hb' with ⟨o2,h2,_⟩ |⟨h2,k2⟩
   ·exact hr1.inj b b' o1 o2 hro h1 h2 e
   ·exfalso
    rw [phi b' o' h2] at e;exact apart b' o' h2 k2 (hE.dH _ (hR.lt h2) ⟨b,o1,hro,h1,e⟩)
  ·rcases geta b' o' hb' with ⟨o2,h2,_⟩ |⟨h2,k2⟩
   ·exfalso
    rw [phi b o h1] at e;rcases Nat.lt_or_ge b' dB with hl |hl
    ·obtain ⟨x,hx⟩:=hE.BI b' hl o2 h2
     obtain ⟨o3,h3,_⟩:=big0 b' x hx;rw [phi b' o3 h3] at e;have:=hR.inj b b' o o3 hro h1 h3 e;subst this;exact k1 x (get0 b x hx)
    ·exact apart b o h1 k1 (hE.dH _ (hR.lt h1) ⟨b',o2,hl,h2,e.symm⟩)
   ·rw [phi b o h1,phi b' o' h2] at e
    exact hR.inj b b' o o' hro h1 h2 e
 ·rcases geta b o hb with ⟨o',h1,h2⟩ |⟨h1,k1⟩
  ·exact (hr1.obj b o' h1).le h2
  ·exact (hR.obj b o h1).mono le1 hE.same (hR.live b o h1) (hE.cT _ (hR.lt h1) (apart b o h1 k1))
 ·refine ⟨by rw [an,←st0];exact hE.jR,fun i hi=>hE.φ i (by rw [st0,←an];exact hi),fun i=>by rw [an,←st0];exact hE.aG i,hE.size,hE.os,hE.tape,hE.output,hE.same,fun b hb hi=>hE.cT b hb fun x=>hi (img0 b x),fun b hb ⟨i,o,h1,h2,h3⟩=>?_,fun i hi o ho=>?_⟩
  ·rcases geta i o h2 with ⟨o',h,_⟩ |⟨h,_⟩
   ·exact img0 b (hE.dH b hb ⟨i,o',h1,h,h3⟩)
   ·exact ⟨i,o,h1,h,by rw [←phi i o h];exact h3⟩
  ·rcases geta i o ho with ⟨o',h,_⟩ |⟨h,_⟩
   ·obtain ⟨x,hx⟩:=hE.BI i hi o' h
    obtain ⟨o3,h3,_⟩:=big0 i x hx;exact ⟨o3,h3⟩
   ·exact ⟨o,h⟩
noncomputable def ak (a b:Spec):Spec:=fun f l H=>match a f l H with
 |some r=>some r
 |none=>b f l H
theorem ag {a b:Spec} (ha:ab P a) (hb:ab P b):ab P (ak a b):=by
 intro f args H e H' h;unfold ak at h;split at h
 ·rename_i r hr;cases h;exact ha hr
 ·exact hb h
end Go.Iv
