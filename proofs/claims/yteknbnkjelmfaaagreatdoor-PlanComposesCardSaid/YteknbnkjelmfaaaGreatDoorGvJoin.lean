/- Choices that yield a truth alone. -/
import Derived.Test.YteknbnkjelmfaaaGreatDoorGvDraw
set_option linter.unusedSimpArgs false
set_option linter.unusedVariables false
namespace Go.Gv
open Go Go.Iv
section
variable {Z:Type} {P:Program} {hint:Hint} {sh:bU} {sf:fD Z} {ρ:Operand->TV} {H:GH} {K1 K2:TV->GH->Option Z}
theorem yF {t:TypeId} {a:TV} (hq:(sh.tF.isEmpty ||(!KM P t && !BL sh t))=true) (hK:∀ v,K1 v H=K2 v H):lC dS P sh H t a K1=lC dS P sh H t a K2:=by
 have hl:ny dS P H t a K1=ny dS P H t a K2:=by simp only [ny,hK]
 unfold lC;split
 .exact hl
 .rename_i hn
  have hf:KM P t=false/\BL sh t=false:=by
   rw [Bool.or_eq_true] at hq;rcases hq with h |h
   .grind
   .simpa using h
  rw [hf.1,hf.2];simp only [Bool.false_and,zab,hl,Ay,hK]
theorem Jj {o:Oper} (hq:quiet P sh o=true) (hK:∀ v,K1 v H=K2 v H):jH dS P sh sf ρ H o K1=jH dS P sh sf ρ H o K2:=by
 unfold quiet at hq;split at hq
 .rename_i x ho;simp only [jH,ho];exact hK _
 .rename_i x ho;simp only [jH,ho];exact hK _
 .rename_i c a b ho;simp only [jH,ho,F4,hK]
 .rename_i op t x y ho;simp only [jH,ho,Pk,u6,oX,GZ,OC,PB,vJ,vq,hK]
 .rename_i ho;simp only [jH,ho,TY,hK]
 .rename_i ho;simp only [jH,ho,Ak,hK]
 .rename_i ho;simp only [jH,ho,yO,hK]
 .rename_i ho;simp only [jH,ho,iD,hK]
 .rename_i ho;simp only [jH,ho,fa,eP,hK]
 .rename_i ho;simp only [jH,ho,pN,hK]
 .rename_i t a ho;simp only [jH,ho];exact yF hq hK
 .rename_i src dst x ho
  split at hq
  .rename_i k hu
   simp only [jH,ho,oT,hu,hK]
   grind
  .cases hq
 .rename_i c ho
  split at hq
  .rename_i hc
   simp only [jH,ho,tE,hc,py];generalize c.args.toList.map ρ=l;cases l with
   |nil=>rfl
   |cons x r=>
    cases r with
    |nil=>simp only [Gz,MQ,hK]
    |cons y r=>rfl
  .cases hq
 .cases hq
theorem GO {fi:FI} {d k t:Nat} {v:TV} {E:GE} (h:cls fi k= .loc->k=d) (ht:cls fi d= .loc->t≠d):eT (cO fi k v E).loc t=eT E.loc t:=by
 unfold cO;cases hc:cls fi k with
 |out=>rfl
 |tmp=>rfl
 |loc=>
  show eT (mP E.loc k v) t=_
  rw [fy,if_neg (by grind)]
theorem Be {fi:FI} {d t:Nat} {dst:Option Tmp} {v:TV} {E:GE} (h:∀ k,dst=some k->cls fi k= .loc->k=d) (ht:cls fi d= .loc->t≠d):eT (c8 fi E dst v).loc t=eT E.loc t:=by
 cases dst with
 |none=>rfl
 |some k=>exact GO (h k rfl) ht
theorem EU {fi:FI} {ops:Array Oper} {E0:GE} {d:Nat} (hd:∀ o∈ops.toList,∀ k,o.dst=some k->cls fi k= .loc->k=d) {K1 K2:GE->GH->Option Z} {KP:GE->Value->GH->Option Z} (hK:∀ E',(∀ t,(cls fi d= .loc->t≠d)->eT E'.loc t=eT E0.loc t)->K1 E' H=K2 E' H):
  ∀ (l:List Oper) (E:GE),(∀ o∈l,quiet P sh o=true/\∀ k,o.dst=some k->cls fi k= .loc->k=d)->(∀ t,(cls fi d= .loc->t≠d)->eT E.loc t=eT E0.loc t)->qk dS P sh sf fi ops l E H K1 KP=qk dS P sh sf fi ops l E H K2 KP:=by
 intro l
 induction l with
 |nil=>intro E _ he;exact hK E he
 |cons o rest ih=>
  intro E hl he;obtain ⟨hq,hdst⟩:=hl o List.mem_cons_self;have hr:∀ o'∈rest,quiet P sh o'=true/\∀ k,o'.dst=some k->cls fi k= .loc->k=d:=fun o' ho'=>hl o' (zan _ ho')
  have run:∀ E',(∀ t,(cls fi d= .loc->t≠d)->eT E'.loc t=eT E0.loc t)->jH dS P sh sf (dD fi E') H o (fun v H=>LM v (fun w=>KP E' w H) (qk dS P sh sf fi ops rest (c8 fi E' o.dst v) H K1 KP))=jH dS P sh sf (dD fi E') H o (fun v H=>LM v (fun w=>KP E' w H) (qk dS P sh sf fi ops rest (c8 fi E' o.dst v) H K2 KP)):=by
   intro E' he';exact Jj hq fun v=>congrArg _ (ih _ hr fun t ht=>(Be hdst ht).trans (he' t ht))
  have skip:∀ E',(∀ t,(cls fi d= .loc->t≠d)->eT E'.loc t=eT E0.loc t)->qk dS P sh sf fi ops rest (c8 fi E' o.dst (.raw Go.undef)) H K1 KP=qk dS P sh sf fi ops rest (c8 fi E' o.dst (.raw Go.undef)) H K2 KP:=by
   intro E' he';exact ih _ hr fun t ht=>(Be hdst ht).trans (he' t ht)
  simp only [qk,lZ];split
  .exact run E he
  .rename_i j want hg
   split
   .rename_i k hk
    have hkd:cls fi k= .loc->k=d:=by
     cases hj:ops[j]? with
     |none=>grind
     |some oj=>
      grind
    have hp:∀ b,∀ t,(cls fi d= .loc->t≠d)->eT (cO fi k (.bool b) E).loc t=eT E0.loc t:=fun b t ht=>(GO hkd ht).trans (he t ht)
    split
    .rename_i b hb
     cases b<;>cases want<;>simp only [dS,zac,zab]
     .exact congrArg _ (run _ (hp false))
     .exact congrArg _ (skip _ (hp false))
     .exact congrArg _ (skip _ (hp true))
     .exact congrArg _ (run _ (hp true))
    .grind
    .rfl
   .rfl
theorem A4 {fi:FI}:∀ {l:List Oper} {o:Oper} {k:Nat},o∈l->o.dst=some k->cls fi k= .loc->k∈CS fi l:=by
 intro l
 induction l with
 |nil=>grind
 |cons a r ih=>
  intro o k h hk hc;unfold CS
  grind
theorem E7 {fi:FI} {ops:Array Oper} {d:Tmp} (h:Kg P sh fi ops=some d):(∀ o∈ops.toList,quiet P sh o=true/\∀ k,o.dst=some k->cls fi k= .loc->k=d)/\(cls fi d= .loc\/cls fi d= .tmp):=by
 unfold Kg at h;replace h:=ad h;obtain ⟨hb,h⟩:=h;replace hb:=ae hb;split at h
 .rename_i d' hd
  cases h;refine ⟨fun o ho=>⟨List.all_eq_true.1 hb.2 o ho,fun k hk hc=>?_⟩,?_⟩
  .have:=A4 ho hk hc
   grind
  .have:∀ {l:List Oper} {d:Nat},d∈CS fi l->cls fi d= .loc:=by
    intro l
    induction l with
    |nil=>intro d h;cases h
    |cons a r ih=>
     intro d h;unfold CS at h;split at h
     .split at h
      .rename_i hc
       rcases List.mem_cons.1 h with rfl |h
       .exact hc
       .exact ih h
      .exact ih h
     .exact ih h
   grind
 .rename_i hd
  split at h
  .split at h
   .rename_i hc
    cases h;refine ⟨fun o ho=>⟨List.all_eq_true.1 hb.2 o ho,fun k hk hc=>?_⟩,.inr hc⟩;have:=A4 ho hk hc
    grind
   .cases h
  .cases h
 .cases h
theorem Hr {self:Self}:ej P hint sh (yI (Z:=Z)) self:=⟨(fun h=>by cases h),(fun h=>by cases h),fun h _ _ _ _ _ _=> .inl h⟩
end
end Go.Gv
