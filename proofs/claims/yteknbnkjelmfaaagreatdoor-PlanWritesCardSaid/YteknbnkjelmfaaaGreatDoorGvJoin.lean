/- Choices that yield a truth alone. -/
import Derived.Test.YteknbnkjelmfaaaGreatDoorGvDraw
set_option linter.unusedSimpArgs false
set_option linter.unusedVariables false
namespace Go.Gv
open Go Go.Iv
section
variable {β:Type} {P:Program} {hint:Hint} {sh:cz} {sf:fD β} {Z:Operand->TV} {H:GH} {K1 K2:TV->GH->Option β}
theorem C0 {t:TypeId} {a:TV} (hq:(sh.RH.isEmpty || !Ws P t)=true) (hK:∀ v,K1 v H=K2 v H):vZ ek P sh H t a K1=vZ ek P sh H t a K2:=by
 show tv ek P H t a K1=tv ek P H t a K2
 simp only [tv,hK]
theorem Ny {o:Oper} (hq:quiet P sh o=true) (hK:∀ v,K1 v H=K2 v H):ja ek P sh sf Z H o K1=ja ek P sh sf Z H o K2:=by
 unfold quiet at hq;split at hq
 ·rename_i x ho;simp only [ja,ho];exact hK _
 ·rename_i x ho;simp only [ja,ho];exact hK _
 ·rename_i c a b ho;simp only [ja,ho,Kr,hK]
 ·rename_i op t x y ho;simp only [ja,ho,RT,xX,pk,KP,SL,RR,xy,v7,hK]
 ·rename_i ho;simp only [ja,ho,WS,hK]
 ·rename_i ho;simp only [ja,ho,DT,hK]
 ·rename_i ho;simp only [ja,ho,C4,hK]
 ·rename_i ho;simp only [ja,ho,iS,hK]
 ·rename_i ho;simp only [ja,ho,ji,fJ,hK]
 ·rename_i ho;simp only [ja,ho,pQ,hK]
 ·rename_i t a ho;simp only [ja,ho];exact C0 hq hK
 ·rename_i src dst x ho
  split at hq
  ·rename_i k hu
   simp only [ja,ho,qL,hu,hK];generalize P.underlying dst=q;cases q with
   |none=>rfl
   |some q=>cases q<;>rfl
  ·cases hq
 ·rename_i c ho
  split at hq
  ·rename_i hc
   simp only [ja,ho,vw,hc,pC];generalize c.args.toList.map Z=l;cases l with
   |nil=>rfl
   |cons x r=>
    cases r with
    |nil=>simp only [Pb,R9,hK]
    |cons y r=>rfl
  ·cases hq
 ·cases hq
theorem Kq {fi:FI} {d k t:Nat} {v:TV} {E:GE} (h:cls fi k= .loc->k=d) (ht:cls fi d= .loc->t≠d):eX (cN fi k v E).loc t=eX E.loc t:=by
 unfold cN;cases hc:cls fi k with
 |out=>rfl
 |tmp=>rfl
 |loc=>
  show eX (nf E.loc k v) t=_
  rw [fx,if_neg (by have:=h hc;subst this;exact ht hc)]
theorem F4 {fi:FI} {d t:Nat} {dst:Option Tmp} {v:TV} {E:GE} (h:∀ k,dst=some k->cls fi k= .loc->k=d) (ht:cls fi d= .loc->t≠d):eX (c8 fi E dst v).loc t=eX E.loc t:=by
 cases dst with
 |none=>rfl
 |some k=>exact Kq (h k rfl) ht
theorem Jh {fi:FI} {ops:Array Oper} {E0:GE} {d:Nat} (hd:∀ o∈ops.toList,∀ k,o.dst=some k->cls fi k= .loc->k=d) {K1 K2:GE->GH->Option β} (hK:∀ E',(∀ t,(cls fi d= .loc->t≠d)->eX E'.loc t=eX E0.loc t)->K1 E' H=K2 E' H):
  ∀ (l:List Oper) (E:GE),(∀ o∈l,quiet P sh o=true/\∀ k,o.dst=some k->cls fi k= .loc->k=d)->(∀ t,(cls fi d= .loc->t≠d)->eX E.loc t=eX E0.loc t)->r9 ek P sh sf fi ops l E H K1=r9 ek P sh sf fi ops l E H K2:=by
 intro l
 induction l with
 |nil=>intro E _ he;exact hK E he
 |cons o rest ih=>
  intro E hl he;obtain ⟨hq,hdst⟩:=hl o List.mem_cons_self;have hr:∀ o'∈rest,quiet P sh o'=true/\∀ k,o'.dst=some k->cls fi k= .loc->k=d:=fun o' ho'=>hl o' (zao _ ho')
  have run:∀ E',(∀ t,(cls fi d= .loc->t≠d)->eX E'.loc t=eX E0.loc t)->ja ek P sh sf (bZ fi E') H o (fun v H=>r9 ek P sh sf fi ops rest (c8 fi E' o.dst v) H K1)=ja ek P sh sf (bZ fi E') H o (fun v H=>r9 ek P sh sf fi ops rest (c8 fi E' o.dst v) H K2):=by
   intro E' he';exact Ny hq fun v=>ih _ hr fun t ht=>(F4 hdst ht).trans (he' t ht)
  have skip:∀ E',(∀ t,(cls fi d= .loc->t≠d)->eX E'.loc t=eX E0.loc t)->r9 ek P sh sf fi ops rest (c8 fi E' o.dst (.raw Go.undef)) H K1=r9 ek P sh sf fi ops rest (c8 fi E' o.dst (.raw Go.undef)) H K2:=by
   intro E' he';exact ih _ hr fun t ht=>(F4 hdst ht).trans (he' t ht)
  simp only [r9,mi];split
  ·exact run E he
  ·rename_i j want hg
   split
   ·rename_i k hk
    have hkd:cls fi k= .loc->k=d:=by
     cases hj:ops[j]? with
     |none=>rw [hj] at hk;cases hk
     |some oj=>
      rw [hj] at hk;exact hd oj (by
       have:=(Array.getElem?_eq_some_iff.1 hj);obtain ⟨h1,h2⟩:=this;rw [←h2];exact Array.getElem_mem_toList h1) k hk
    have hp:∀ b,∀ t,(cls fi d= .loc->t≠d)->eX (cN fi k (.bool b) E).loc t=eX E0.loc t:=fun b t ht=>(Kq hkd ht).trans (he t ht)
    split
    ·rename_i b hb
     cases b<;>cases want<;>simp only [ek,zac,zab]
     ·exact run _ (hp false)
     ·exact skip _ (hp false)
     ·exact skip _ (hp true)
     ·exact run _ (hp true)
    ·split
     ·rfl
     ·rfl
     ·exact skip E he
    ·rfl
   ·rfl
theorem Ho {fi:FI}:∀ {l:List Oper} {o:Oper} {k:Nat},o∈l->o.dst=some k->cls fi k= .loc->k∈EI fi l:=by
 intro l
 induction l with
 |nil=>intro o k h;cases h
 |cons a r ih=>
  intro o k h hk hc;unfold EI;rcases List.mem_cons.1 h with rfl |h
  ·rw [hk]
   simp only [hc];exact List.mem_cons_self
  ·have:=ih h hk hc
   split
   ·split
    ·exact zao _ this
    ·exact this
   ·exact this
theorem IL {fi:FI} {ops:Array Oper} {d:Tmp} (h:QJ P sh fi ops=some d):(∀ o∈ops.toList,quiet P sh o=true/\∀ k,o.dst=some k->cls fi k= .loc->k=d)/\(cls fi d= .loc∨cls fi d= .tmp):=by
 unfold QJ at h;replace h:=ae h;obtain ⟨hb,h⟩:=h;replace hb:=ai hb;split at h
 ·rename_i d' hd
  cases h;refine ⟨fun o ho=>⟨List.all_eq_true.1 hb.2 o ho,fun k hk hc=>?_⟩,?_⟩
  ·have:=Ho ho hk hc
   rw [hd] at this;exact List.mem_singleton.1 this
  ·have:∀ {l:List Oper} {d:Nat},d∈EI fi l->cls fi d= .loc:=by
    intro l
    induction l with
    |nil=>intro d h;cases h
    |cons a r ih=>
     intro d h;unfold EI at h;split at h
     ·split at h
      ·rename_i hc
       rcases List.mem_cons.1 h with rfl |h
       ·exact hc
       ·exact ih h
      ·exact ih h
     ·exact ih h
   exact .inl (this (l:=ops.toList) (by rw [hd];exact List.mem_singleton.2 rfl))
 ·rename_i hd
  split at h
  ·split at h
   ·rename_i hc
    cases h;refine ⟨fun o ho=>⟨List.all_eq_true.1 hb.2 o ho,fun k hk hc=>?_⟩,.inr hc⟩;have:=Ho ho hk hc;rw [hd] at this;cases this
   ·cases h
  ·cases h
 ·cases h
theorem MT {self:Self}:fL P hint sh (DH (β:=β)) self:=⟨(fun h=>by cases h),(fun h=>by cases h),fun h _ _ _ _ _ _=> .inl h⟩
end
end Go.Gv
