/- Choices that yield a truth alone. -/
import Derived.Test.YtdelfjdjenlaiaaGreatDoorGvDraw
set_option linter.unusedSimpArgs false
set_option linter.unusedVariables false
namespace Go.Gv
open Go Go.Iv
section
variable {β:Type} {P:Program} {hint:Hint} {sh:cw} {sf:eB β} {Z:Operand->TV} {H:GH} {K1 K2:TV->GH->Option β}
theorem C1 {t:TypeId} {a:TV} (hq:(sh.zt.isEmpty || !PA P t)=true) (hK:∀ v,K1 v H=K2 v H):l8 dR P sh H t a K1=l8 dR P sh H t a K2:=by
 have hl:nk dR P H t a K1=nk dR P H t a K2:=by simp only [nk,hK]
 unfold l8;split
 ·exact hl
 ·rename_i hn
  have hf:PA P t=false:=by
   rw [Bool.or_eq_true] at hq;rcases hq with h |h
   ·exact absurd (List.isEmpty_iff.1 h) hn
   ·simpa using h
  rw [hf];simp only [Bool.false_and,zab,hl,BZ,hK]
theorem MK {o:Oper} (hq:quiet P sh o=true) (hK:∀ v,K1 v H=K2 v H):iW dR P sh sf Z H o K1=iW dR P sh sf Z H o K2:=by
 unfold quiet at hq;split at hq
 ·rename_i x ho;simp only [iW,ho];exact hK _
 ·rename_i x ho;simp only [iW,ho];exact hK _
 ·rename_i c a b ho;simp only [iW,ho,LC,hK]
 ·rename_i op t x y ho;simp only [iW,ho,S8,vy,pU,KC,T9,S9,vx,yl,hK]
 ·rename_i ho;simp only [iW,ho,X6,hK]
 ·rename_i ho;simp only [iW,ho,Cr,hK]
 ·rename_i ho;simp only [iW,ho,CT,hK]
 ·rename_i ho;simp only [iW,ho,iR,hK]
 ·rename_i ho;simp only [iW,ho,fh,fa,hK]
 ·rename_i ho;simp only [iW,ho,p8,hK]
 ·rename_i t a ho;simp only [iW,ho];exact C1 hq hK
 ·rename_i src dst x ho
  split at hq
  ·rename_i k hu
   simp only [iW,ho,pA,hu,hK];generalize P.underlying dst=q;cases q with
   |none=>rfl
   |some q=>cases q<;>rfl
  ·cases hq
 ·rename_i c ho
  split at hq
  ·rename_i hc
   simp only [iW,ho,uQ,hc,pz];generalize c.args.toList.map Z=l;cases l with
   |nil=>rfl
   |cons x r=>
    cases r with
    |nil=>simp only [KI,RO,hK]
    |cons y r=>rfl
  ·cases hq
 ·cases hq
theorem LF {fi:FI} {d k t:Nat} {v:TV} {E:GE} (h:cls fi k= .loc->k=d) (ht:cls fi d= .loc->t≠d):eU (c7 fi k v E).loc t=eU E.loc t:=by
 unfold c7;cases hc:cls fi k with
 |out=>rfl
 |tmp=>rfl
 |loc=>
  show eU (mZ E.loc k v) t=_
  rw [fF,if_neg (by have:=h hc;subst this;exact ht hc)]
theorem Dy {fi:FI} {d t:Nat} {dst:Option Tmp} {v:TV} {E:GE} (h:∀ k,dst=some k->cls fi k= .loc->k=d) (ht:cls fi d= .loc->t≠d):eU (cz fi E dst v).loc t=eU E.loc t:=by
 cases dst with
 |none=>rfl
 |some k=>exact LF (h k rfl) ht
theorem JF {fi:FI} {ops:Array Oper} {E0:GE} {d:Nat} (hd:∀ o∈ops.toList,∀ k,o.dst=some k->cls fi k= .loc->k=d) {K1 K2:GE->GH->Option β} {KP:GE->Value->GH->Option β} (hK:∀ E',(∀ t,(cls fi d= .loc->t≠d)->eU E'.loc t=eU E0.loc t)->K1 E' H=K2 E' H):
  ∀ (l:List Oper) (E:GE),(∀ o∈l,quiet P sh o=true/\∀ k,o.dst=some k->cls fi k= .loc->k=d)->(∀ t,(cls fi d= .loc->t≠d)->eU E.loc t=eU E0.loc t)->nW dR P sh sf fi ops l E H K1 KP=nW dR P sh sf fi ops l E H K2 KP:=by
 intro l
 induction l with
 |nil=>intro E _ he;exact hK E he
 |cons o rest ih=>
  intro E hl he;obtain ⟨hq,hdst⟩:=hl o List.mem_cons_self;have hr:∀ o'∈rest,quiet P sh o'=true/\∀ k,o'.dst=some k->cls fi k= .loc->k=d:=fun o' ho'=>hl o' (zak _ ho')
  have run:∀ E',(∀ t,(cls fi d= .loc->t≠d)->eU E'.loc t=eU E0.loc t)->iW dR P sh sf (bW fi E') H o (fun v H=>Og v (fun w=>KP E' w H) (nW dR P sh sf fi ops rest (cz fi E' o.dst v) H K1 KP))=iW dR P sh sf (bW fi E') H o (fun v H=>Og v (fun w=>KP E' w H) (nW dR P sh sf fi ops rest (cz fi E' o.dst v) H K2 KP)):=by
   intro E' he';exact MK hq fun v=>congrArg _ (ih _ hr fun t ht=>(Dy hdst ht).trans (he' t ht))
  have skip:∀ E',(∀ t,(cls fi d= .loc->t≠d)->eU E'.loc t=eU E0.loc t)->nW dR P sh sf fi ops rest (cz fi E' o.dst (.raw Go.undef)) H K1 KP=nW dR P sh sf fi ops rest (cz fi E' o.dst (.raw Go.undef)) H K2 KP:=by
   intro E' he';exact ih _ hr fun t ht=>(Dy hdst ht).trans (he' t ht)
  simp only [nW,kd];split
  ·exact run E he
  ·rename_i j want hg
   split
   ·rename_i k hk
    have hkd:cls fi k= .loc->k=d:=by
     cases hj:ops[j]? with
     |none=>rw [hj] at hk;cases hk
     |some oj=>
      rw [hj] at hk;exact hd oj (by
       have:=(Array.getElem?_eq_some_iff.1 hj);obtain ⟨h1,h2⟩:=this;rw [←h2];exact Array.getElem_mem_toList h1) k hk
    have hp:∀ b,∀ t,(cls fi d= .loc->t≠d)->eU (c7 fi k (.bool b) E).loc t=eU E0.loc t:=fun b t ht=>(LF hkd ht).trans (he t ht)
    split
    ·rename_i b hb
     cases b<;>cases want<;>simp only [dR,zac,zab]
     ·exact congrArg _ (run _ (hp false))
     ·exact congrArg _ (skip _ (hp false))
     ·exact congrArg _ (skip _ (hp true))
     ·exact congrArg _ (run _ (hp true))
    ·split
     ·rfl
     ·rfl
     ·exact skip E he
    ·rfl
   ·rfl
theorem Gp {fi:FI}:∀ {l:List Oper} {o:Oper} {k:Nat},o∈l->o.dst=some k->cls fi k= .loc->k∈Du fi l:=by
 intro l
 induction l with
 |nil=>intro o k h;cases h
 |cons a r ih=>
  intro o k h hk hc;unfold Du;rcases List.mem_cons.1 h with rfl |h
  ·rw [hk]
   simp only [hc];exact List.mem_cons_self
  ·have:=ih h hk hc
   split
   ·split
    ·exact zak _ this
    ·exact this
   ·exact this
theorem Hz {fi:FI} {ops:Array Oper} {d:Tmp} (h:Q3 P sh fi ops=some d):(∀ o∈ops.toList,quiet P sh o=true/\∀ k,o.dst=some k->cls fi k= .loc->k=d)/\(cls fi d= .loc∨cls fi d= .tmp):=by
 unfold Q3 at h;replace h:=ae h;obtain ⟨hb,h⟩:=h;replace hb:=af hb;split at h
 ·rename_i d' hd
  cases h;refine ⟨fun o ho=>⟨List.all_eq_true.1 hb.2 o ho,fun k hk hc=>?_⟩,?_⟩
  ·have:=Gp ho hk hc
   rw [hd] at this;exact List.mem_singleton.1 this
  ·have:∀ {l:List Oper} {d:Nat},d∈Du fi l->cls fi d= .loc:=by
    intro l
    induction l with
    |nil=>intro d h;cases h
    |cons a r ih=>
     intro d h;unfold Du at h;split at h
     ·split at h
      ·rename_i hc
       rcases List.mem_cons.1 h with rfl |h
       ·exact hc
       ·exact ih h
      ·exact ih h
     ·exact ih h
   exact .inl (this (l:=ops.toList) (by rw [hd];exact List.mem_singleton.2 rfl))
 ·rename_i hd
  split at h
  ·split at h
   ·rename_i hc
    cases h;refine ⟨fun o ho=>⟨List.all_eq_true.1 hb.2 o ho,fun k hk hc=>?_⟩,.inr hc⟩;have:=Gp ho hk hc;rw [hd] at this;cases this
   ·cases h
  ·cases h
 ·cases h
theorem MS {self:Self}:dv P hint sh (Ca (β:=β)) self:=⟨(fun h=>by cases h),(fun h=>by cases h),fun h _ _ _ _ _ _=> .inl h⟩
end
end Go.Gv
