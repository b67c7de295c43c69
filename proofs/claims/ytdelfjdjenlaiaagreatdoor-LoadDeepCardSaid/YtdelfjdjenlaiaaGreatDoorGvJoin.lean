/- Choices that yield a truth alone. -/
import Derived.Test.YtdelfjdjenlaiaaGreatDoorGvDraw
set_option linter.unusedSimpArgs false
set_option linter.unusedVariables false
namespace Go.Gv
open Go Go.Iv
section
variable {β:Type} {P:Program} {hint:Hint} {sh:cA} {sf:eF β} {Z:Operand->TV} {H:GH} {K1 K2:TV->GH->Option β}
theorem C5 {t:TypeId} {a:TV} (hq:(sh.gZ.isEmpty || !O5 P t)=true) (hK:∀ v,K1 v H=K2 v H):mc dW P sh H t a K1=mc dW P sh H t a K2:=by
 have hl:nB dW P H t a K1=nB dW P H t a K2:=by simp only [nB,hK]
 unfold mc;split
 ·exact hl
 ·rename_i hn
  have hf:O5 P t=false:=by
   rw [Bool.or_eq_true] at hq;rcases hq with h |h
   ·exact absurd (List.isEmpty_iff.1 h) hn
   ·simpa using h
  rw [hf];simp only [Bool.false_and,zab,hl,Cp,hK]
theorem MG {o:Oper} (hq:quiet P sh o=true) (hK:∀ v,K1 v H=K2 v H):jc dW P sh sf Z H o K1=jc dW P sh sf Z H o K2:=by
 unfold quiet at hq;split at hq
 ·rename_i x ho;simp only [jc,ho];exact hK _
 ·rename_i x ho;simp only [jc,ho];exact hK _
 ·rename_i c a b ho;simp only [jc,ho,Ls,hK]
 ·rename_i op t x y ho;simp only [jc,ho,Tx,wu,pW,LI,SR,Tf,xr,xv,hK]
 ·rename_i ho;simp only [jc,ho,X7,hK]
 ·rename_i ho;simp only [jc,ho,BN,hK]
 ·rename_i ho;simp only [jc,ho,Dj,hK]
 ·rename_i ho;simp only [jc,ho,iX,hK]
 ·rename_i ho;simp only [jc,ho,fq,fe,hK]
 ·rename_i ho;simp only [jc,ho,qg,hK]
 ·rename_i t a ho;simp only [jc,ho];exact C5 hq hK
 ·rename_i src dst x ho
  split at hq
  ·rename_i k hu
   simp only [jc,ho,pV,hu,hK];generalize P.underlying dst=q;cases q with
   |none=>rfl
   |some q=>cases q<;>rfl
  ·cases hq
 ·rename_i c ho
  split at hq
  ·rename_i hc
   simp only [jc,ho,vk,hc,pO];generalize c.args.toList.map Z=l;cases l with
   |nil=>rfl
   |cons x r=>
    cases r with
    |nil=>simp only [KW,Sl,hK]
    |cons y r=>rfl
  ·cases hq
 ·cases hq
theorem LS {fi:FI} {d k t:Nat} {v:TV} {E:GE} (h:cls fi k= .loc->k=d) (ht:cls fi d= .loc->t≠d):eX (dc fi k v E).loc t=eX E.loc t:=by
 unfold dc;cases hc:cls fi k with
 |out=>rfl
 |tmp=>rfl
 |loc=>
  show eX (nk E.loc k v) t=_
  rw [fP,if_neg (by have:=h hc;subst this;exact ht hc)]
theorem Fv {fi:FI} {d t:Nat} {dst:Option Tmp} {v:TV} {E:GE} (h:∀ k,dst=some k->cls fi k= .loc->k=d) (ht:cls fi d= .loc->t≠d):eX (cC fi E dst v).loc t=eX E.loc t:=by
 cases dst with
 |none=>rfl
 |some k=>exact LS (h k rfl) ht
theorem HM {fi:FI} {ops:Array Oper} {E0:GE} {d:Nat} (hd:∀ o∈ops.toList,∀ k,o.dst=some k->cls fi k= .loc->k=d) {K1 K2:GE->GH->Option β} {KP:GE->Value->GH->Option β} (hK:∀ E',(∀ t,(cls fi d= .loc->t≠d)->eX E'.loc t=eX E0.loc t)->K1 E' H=K2 E' H):
  ∀ (l:List Oper) (E:GE),(∀ o∈l,quiet P sh o=true/\∀ k,o.dst=some k->cls fi k= .loc->k=d)->(∀ t,(cls fi d= .loc->t≠d)->eX E.loc t=eX E0.loc t)->od dW P sh sf fi ops l E H K1 KP=od dW P sh sf fi ops l E H K2 KP:=by
 intro l
 induction l with
 |nil=>intro E _ he;exact hK E he
 |cons o rest ih=>
  intro E hl he;obtain ⟨hq,hdst⟩:=hl o List.mem_cons_self;have hr:∀ o'∈rest,quiet P sh o'=true/\∀ k,o'.dst=some k->cls fi k= .loc->k=d:=fun o' ho'=>hl o' (zak _ ho')
  have run:∀ E',(∀ t,(cls fi d= .loc->t≠d)->eX E'.loc t=eX E0.loc t)->jc dW P sh sf (bZ fi E') H o (fun v H=>Om v (fun w=>KP E' w H) (od dW P sh sf fi ops rest (cC fi E' o.dst v) H K1 KP))=jc dW P sh sf (bZ fi E') H o (fun v H=>Om v (fun w=>KP E' w H) (od dW P sh sf fi ops rest (cC fi E' o.dst v) H K2 KP)):=by
   intro E' he';exact MG hq fun v=>congrArg _ (ih _ hr fun t ht=>(Fv hdst ht).trans (he' t ht))
  have skip:∀ E',(∀ t,(cls fi d= .loc->t≠d)->eX E'.loc t=eX E0.loc t)->od dW P sh sf fi ops rest (cC fi E' o.dst (.raw Go.undef)) H K1 KP=od dW P sh sf fi ops rest (cC fi E' o.dst (.raw Go.undef)) H K2 KP:=by
   intro E' he';exact ih _ hr fun t ht=>(Fv hdst ht).trans (he' t ht)
  simp only [od,kE];split
  ·exact run E he
  ·rename_i j want hg
   split
   ·rename_i k hk
    have hkd:cls fi k= .loc->k=d:=by
     cases hj:ops[j]? with
     |none=>rw [hj] at hk;cases hk
     |some oj=>
      rw [hj] at hk;exact hd oj (by
       have:=(Array.getElem?_eq_some_iff.1 hj);obtain ⟨h1,h2⟩:=this;rw [←h2];exact Array.getElem_mem_toList h1) k hk
    have hp:∀ b,∀ t,(cls fi d= .loc->t≠d)->eX (dc fi k (.bool b) E).loc t=eX E0.loc t:=fun b t ht=>(LS hkd ht).trans (he t ht)
    split
    ·rename_i b hb
     cases b<;>cases want<;>simp only [dW,zac,zab]
     ·exact congrArg _ (run _ (hp false))
     ·exact congrArg _ (skip _ (hp false))
     ·exact congrArg _ (skip _ (hp true))
     ·exact congrArg _ (run _ (hp true))
    ·split
     ·rfl
     ·rfl
     ·exact skip E he
    ·rfl
   ·rfl
theorem DH {fi:FI}:∀ {l:List Oper} {o:Oper} {k:Nat},o∈l->o.dst=some k->cls fi k= .loc->k∈Hd fi l:=by
 intro l
 induction l with
 |nil=>intro o k h;cases h
 |cons a r ih=>
  intro o k h hk hc;unfold Hd;rcases List.mem_cons.1 h with rfl |h
  ·rw [hk]
   simp only [hc];exact List.mem_cons_self
  ·have:=ih h hk hc
   split
   ·split
    ·exact zak _ this
    ·exact this
   ·exact this
theorem Jr {fi:FI} {ops:Array Oper} {d:Tmp} (h:PG P sh fi ops=some d):(∀ o∈ops.toList,quiet P sh o=true/\∀ k,o.dst=some k->cls fi k= .loc->k=d)/\(cls fi d= .loc∨cls fi d= .tmp):=by
 unfold PG at h;replace h:=ae h;obtain ⟨hb,h⟩:=h;replace hb:=af hb;split at h
 ·rename_i d' hd
  cases h;refine ⟨fun o ho=>⟨List.all_eq_true.1 hb.2 o ho,fun k hk hc=>?_⟩,?_⟩
  ·have:=DH ho hk hc
   rw [hd] at this;exact List.mem_singleton.1 this
  ·have:∀ {l:List Oper} {d:Nat},d∈Hd fi l->cls fi d= .loc:=by
    intro l
    induction l with
    |nil=>intro d h;cases h
    |cons a r ih=>
     intro d h;unfold Hd at h;split at h
     ·split at h
      ·rename_i hc
       rcases List.mem_cons.1 h with rfl |h
       ·exact hc
       ·exact ih h
      ·exact ih h
     ·exact ih h
   exact .inl (this (l:=ops.toList) (by rw [hd];exact List.mem_singleton.2 rfl))
 ·rename_i hd
  split at h
  ·split at h
   ·rename_i hc
    cases h;refine ⟨fun o ho=>⟨List.all_eq_true.1 hb.2 o ho,fun k hk hc=>?_⟩,.inr hc⟩;have:=DH ho hk hc;rw [hd] at this;cases this
   ·cases h
  ·cases h
 ·cases h
theorem MY {self:Self}:dv P hint sh (CP (β:=β)) self:=⟨(fun h=>by cases h),(fun h=>by cases h),fun h _ _ _ _ _ _=> .inl h⟩
end
end Go.Gv
