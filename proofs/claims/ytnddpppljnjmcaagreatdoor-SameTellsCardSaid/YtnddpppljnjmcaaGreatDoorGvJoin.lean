/- Choices that yield a truth alone. -/
import Derived.Test.YtnddpppljnjmcaaGreatDoorGvDraw
set_option linter.unusedSimpArgs false
set_option linter.unusedVariables false
namespace Go.Gv
open Go Go.Iv
section
variable {β:Type} {P:Program} {hint:Hint} {sh:cr} {sf:eP β} {ρ:Operand→TV} {H:GH} {K1 K2:TV→GH→Option β}
theorem Ax {t:TypeId} {a:TV} (hq:(sh.Oz.isEmpty || !Sf P t)=true) (hK:∀ v,K1 v H=K2 v H):tC dF P sh H t a K1=tC dF P sh H t a K2:=by
 show rE dF P H t a K1=rE dF P H t a K2
 simp only [rE,hK]
theorem Le {o:Oper} (hq:quiet P sh o=true) (hK:∀ v,K1 v H=K2 v H):gP dF P sh sf ρ H o K1=gP dF P sh sf ρ H o K2:=by
 unfold quiet at hq
 split at hq
 ·rename_i x ho;simp only [gP,ho];exact hK _
 ·rename_i x ho;simp only [gP,ho];exact hK _
 ·rename_i c a b ho;simp only [gP,ho,HR,hK]
 ·rename_i op t x y ho;simp only [gP,ho,Po,vt,oO,HL,Pj,Pr,vG,uc,hK]
 ·rename_i ho;simp only [gP,ho,Sr,hK]
 ·rename_i ho;simp only [gP,ho,Au,hK]
 ·rename_i ho;simp only [gP,ho,BE,hK]
 ·rename_i ho;simp only [gP,ho,gh,hK]
 ·rename_i ho;simp only [gP,ho,gW,eV,hK]
 ·rename_i ho;simp only [gP,ho,nG,hK]
 ·rename_i t a ho;simp only [gP,ho];exact Ax hq hK
 ·rename_i src dst x ho
  split at hq
  ·rename_i k hu
   simp only [gP,ho,pf,hu,hK]
   generalize P.underlying dst=q
   cases q with
   |none=>rfl
   |some q=>cases q<;>rfl
  ·cases hq
 ·rename_i c ho
  split at hq
  ·rename_i hc
   simp only [gP,ho,te,hc,o5]
   generalize c.args.toList.map ρ=l
   cases l with
   |nil=>rfl
   |cons x r=>
    cases r with
    |nil=>simp only [Me,OW,hK]
    |cons y r=>rfl
  ·cases hq
 ·cases hq
theorem It {fi:FI} {d k t:Nat} {v:TV} {E:GE} (h:cls fi k= .loc→k=d) (ht:cls fi d= .loc→t≠d):eB (cA fi k v E).loc t=eB E.loc t:=by
 unfold cA
 cases hc:cls fi k with
 |out=>rfl
 |tmp=>rfl
 |loc=>
  show eB (lp E.loc k v) t=_
  rw [eN,if_neg (by have:=h hc;subst this;exact ht hc)]
theorem Cn {fi:FI} {d t:Nat} {dst:Option Tmp} {v:TV} {E:GE} (h:∀ k,dst=some k→cls fi k= .loc→k=d) (ht:cls fi d= .loc→t≠d):eB (cJ fi E dst v).loc t=eB E.loc t:=by
 cases dst with
 |none=>rfl
 |some k=>exact It (h k rfl) ht
theorem Hg {fi:FI} {ops:Array Oper} {E0:GE} {d:Nat} (hd:∀ o∈ops.toList,∀ k,o.dst=some k→cls fi k= .loc→k=d) {K1 K2:GE→GH→Option β} (hK:∀ E',(∀ t,(cls fi d= .loc→t≠d)→eB E'.loc t=eB E0.loc t)→K1 E' H=K2 E' H):
  ∀ (l:List Oper) (E:GE),(∀ o∈l,quiet P sh o=true∧∀ k,o.dst=some k→cls fi k= .loc→k=d)→(∀ t,(cls fi d= .loc→t≠d)→eB E.loc t=eB E0.loc t)→pW dF P sh sf fi ops l E H K1=pW dF P sh sf fi ops l E H K2:=by
 intro l
 induction l with
 |nil=>intro E _ he;exact hK E he
 |cons o rest ih=>
  intro E hl he
  obtain ⟨hq,hdst⟩:=hl o List.mem_cons_self
  have hr:∀ o'∈rest,quiet P sh o'=true∧∀ k,o'.dst=some k→cls fi k= .loc→k=d:=fun o' ho'=>hl o' (List.mem_cons_of_mem _ ho')
  have run:∀ E',(∀ t,(cls fi d= .loc→t≠d)→eB E'.loc t=eB E0.loc t)→gP dF P sh sf (dd fi E') H o (fun v H=>pW dF P sh sf fi ops rest (cJ fi E' o.dst v) H K1)=gP dF P sh sf (dd fi E') H o (fun v H=>pW dF P sh sf fi ops rest (cJ fi E' o.dst v) H K2):=by
   intro E' he'
   exact Le hq fun v=>ih _ hr fun t ht=>(Cn hdst ht).trans (he' t ht)
  have skip:∀ E',(∀ t,(cls fi d= .loc→t≠d)→eB E'.loc t=eB E0.loc t)→pW dF P sh sf fi ops rest (cJ fi E' o.dst (.raw Go.undef)) H K1=pW dF P sh sf fi ops rest (cJ fi E' o.dst (.raw Go.undef)) H K2:=by
   intro E' he'
   exact ih _ hr fun t ht=>(Cn hdst ht).trans (he' t ht)
  simp only [pW,jV]
  split
  ·exact run E he
  ·rename_i j want hg
   split
   ·rename_i k hk
    have hkd:cls fi k= .loc→k=d:=by
     cases hj:ops[j]? with
     |none=>rw [hj] at hk;cases hk
     |some oj=>
      rw [hj] at hk
      exact hd oj (by
       have:=(Array.getElem?_eq_some_iff.1 hj)
       obtain ⟨h1,h2⟩:=this
       rw [←h2];exact Array.getElem_mem_toList h1) k hk
    have hp:∀ b,∀ t,(cls fi d= .loc→t≠d)→eB (cA fi k (.bool b) E).loc t=eB E0.loc t:=fun b t ht=>(It hkd ht).trans (he t ht)
    split
    ·rename_i b hb
     cases b<;>cases want<;>simp only [dF,cond_true,cond_false]
     ·exact run _ (hp false)
     ·exact skip _ (hp false)
     ·exact skip _ (hp true)
     ·exact run _ (hp true)
    ·split
     ·rfl
     ·rfl
     ·exact skip E he
    ·rfl
   ·rfl
theorem EA {fi:FI}:∀ {l:List Oper} {o:Oper} {k:Nat},o∈l→o.dst=some k→cls fi k= .loc→k∈Cd fi l:=by
 intro l
 induction l with
 |nil=>intro o k h;cases h
 |cons a r ih=>
  intro o k h hk hc
  unfold Cd
  rcases List.mem_cons.1 h with rfl |h
  ·rw [hk]
   simp only [hc]
   exact List.mem_cons_self
  ·have:=ih h hk hc
   split
   ·split
    ·exact List.mem_cons_of_mem _ this
    ·exact this
   ·exact this
theorem G1 {fi:FI} {ops:Array Oper} {d:Tmp} (h:Mg P sh fi ops=some d):(∀ o∈ops.toList,quiet P sh o=true∧∀ k,o.dst=some k→cls fi k= .loc→k=d)∧(cls fi d= .loc∨cls fi d= .tmp):=by
 unfold Mg at h
 replace h:=ad h;obtain ⟨hb,h⟩:=h
 replace hb:=Go.Gv.and_true hb
 split at h
 ·rename_i d' hd
  cases h
  refine ⟨fun o ho=>⟨List.all_eq_true.1 hb.2 o ho,fun k hk hc=>?_⟩,?_⟩
  ·have:=EA ho hk hc
   rw [hd] at this
   exact List.mem_singleton.1 this
  ·have:∀ {l:List Oper} {d:Nat},d∈Cd fi l→cls fi d= .loc:=by
    intro l
    induction l with
    |nil=>intro d h;cases h
    |cons a r ih=>
     intro d h
     unfold Cd at h
     split at h
     ·split at h
      ·rename_i hc
       rcases List.mem_cons.1 h with rfl |h
       ·exact hc
       ·exact ih h
      ·exact ih h
     ·exact ih h
   exact .inl (this (l:=ops.toList) (by rw [hd];exact List.mem_singleton.2 rfl))
 ·rename_i hd
  split at h
  ·split at h
   ·rename_i hc
    cases h
    refine ⟨fun o ho=>⟨List.all_eq_true.1 hb.2 o ho,fun k hk hc=>?_⟩,.inr hc⟩
    have:=EA ho hk hc
    rw [hd] at this
    cases this
   ·cases h
  ·cases h
 ·cases h
theorem KA {self:Self}:eR P hint sh (BM (β:=β)) self:=⟨(fun h=>by cases h),(fun h=>by cases h),fun h _ _ _ _ _ _=> .inl h⟩
end
end Go.Gv
