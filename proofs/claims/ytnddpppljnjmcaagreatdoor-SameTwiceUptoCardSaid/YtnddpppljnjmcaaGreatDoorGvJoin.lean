/- Choices that yield a truth alone. -/
import Derived.Test.YtnddpppljnjmcaaGreatDoorGvDraw
set_option linter.unusedSimpArgs false
set_option linter.unusedVariables false
namespace Go.Gv
open Go Go.Iv
section
variable {β:Type} {P:Program} {hint:Hint} {sh:ShT} {sf:GSelf β} {ρ:Operand→TV} {H:GH} {K1 K2:TV→GH→Option β}
theorem gLoadN_congr {t:TypeId} {a:TV} (hq:(sh.nst.isEmpty || !isSl P t)=true) (hK:∀ v,K1 v H=K2 v H):gLoadN std P sh H t a K1=gLoadN std P sh H t a K2:=by
 have hl:gLoad std P H t a K1=gLoad std P H t a K2:=by simp only [gLoad,hK]
 unfold gLoadN
 split
 ·exact hl
 ·rename_i hn
  have hf:isSl P t=false:=by
   rw [Bool.or_eq_true] at hq
   rcases hq with h |h
   ·exact absurd (List.isEmpty_iff.1 h) hn
   ·simpa using h
  rw [hf]
  simp only [Bool.false_and,cond_false,hl,gLoadP,hK]
theorem gOp_congr {o:Oper} (hq:quiet P sh o=true) (hK:∀ v,K1 v H=K2 v H):gOp std P sh sf ρ H o K1=gOp std P sh sf ρ H o K2:=by
 unfold quiet at hq
 split at hq
 ·rename_i x ho;simp only [gOp,ho];exact hK _
 ·rename_i x ho;simp only [gOp,ho];exact hK _
 ·rename_i c a b ho;simp only [gOp,ho,gPick,hK]
 ·rename_i op t x y ho;simp only [gOp,ho,gBin,gShift,gShiftB,gByte,gInt,gStr,gEqAgg,gEqNil,hK]
 ·rename_i ho;simp only [gOp,ho,gUn,hK]
 ·rename_i ho;simp only [gOp,ho,gIndex,hK]
 ·rename_i ho;simp only [gOp,ho,gField,hK]
 ·rename_i ho;simp only [gOp,ho,gFieldAddr,hK]
 ·rename_i ho;simp only [gOp,ho,gIndexAddrN,gIndexAddr,hK]
 ·rename_i ho;simp only [gOp,ho,gExtract,hK]
 ·rename_i t a ho;simp only [gOp,ho];exact gLoadN_congr hq hK
 ·rename_i src dst x ho
  split at hq
  ·rename_i k hu
   simp only [gOp,ho,gConvert,hu,hK]
   generalize P.underlying dst=q
   cases q with
   |none=>rfl
   |some q=>cases q<;>rfl
  ·cases hq
 ·rename_i c ho
  split at hq
  ·rename_i hc
   simp only [gOp,ho,gCallOp,hc,gBuiltin]
   generalize c.args.toList.map ρ=l
   cases l with
   |nil=>rfl
   |cons x r=>
    cases r with
    |nil=>simp only [gLenN,gLen,hK]
    |cons y r=>rfl
  ·cases hq
 ·cases hq
theorem loc_put {fi:FI} {d k t:Nat} {v:TV} {E:GE} (h:cls fi k= .loc→k=d) (ht:cls fi d= .loc→t≠d):lkG (putGE fi k v E).loc t=lkG E.loc t:=by
 unfold putGE
 cases hc:cls fi k with
 |out=>rfl
 |tmp=>rfl
 |loc=>
  show lkG (updG E.loc k v) t=_
  rw [lkG_updG,if_neg (by have:=h hc;subst this;exact ht hc)]
theorem loc_putT {fi:FI} {d t:Nat} {dst:Option Tmp} {v:TV} {E:GE} (h:∀ k,dst=some k→cls fi k= .loc→k=d) (ht:cls fi d= .loc→t≠d):lkG (putGT fi E dst v).loc t=lkG E.loc t:=by
 cases dst with
 |none=>rfl
 |some k=>exact loc_put (h k rfl) ht
theorem gOps_congr {fi:FI} {ops:Array Oper} {E0:GE} {d:Nat} (hd:∀ o∈ops.toList,∀ k,o.dst=some k→cls fi k= .loc→k=d) {K1 K2:GE→GH→Option β} (hK:∀ E',(∀ t,(cls fi d= .loc→t≠d)→lkG E'.loc t=lkG E0.loc t)→K1 E' H=K2 E' H):
  ∀ (l:List Oper) (E:GE),(∀ o∈l,quiet P sh o=true∧∀ k,o.dst=some k→cls fi k= .loc→k=d)→(∀ t,(cls fi d= .loc→t≠d)→lkG E.loc t=lkG E0.loc t)→gOps std P sh sf fi ops l E H K1=gOps std P sh sf fi ops l E H K2:=by
 intro l
 induction l with
 |nil=>intro E _ he;exact hK E he
 |cons o rest ih=>
  intro E hl he
  obtain ⟨hq,hdst⟩:=hl o List.mem_cons_self
  have hr:∀ o'∈rest,quiet P sh o'=true∧∀ k,o'.dst=some k→cls fi k= .loc→k=d:=fun o' ho'=>hl o' (List.mem_cons_of_mem _ ho')
  have run:∀ E',(∀ t,(cls fi d= .loc→t≠d)→lkG E'.loc t=lkG E0.loc t)→gOp std P sh sf (opdG fi E') H o (fun v H=>gOps std P sh sf fi ops rest (putGT fi E' o.dst v) H K1)=gOp std P sh sf (opdG fi E') H o (fun v H=>gOps std P sh sf fi ops rest (putGT fi E' o.dst v) H K2):=by
   intro E' he'
   exact gOp_congr hq fun v=>ih _ hr fun t ht=>(loc_putT hdst ht).trans (he' t ht)
  have skip:∀ E',(∀ t,(cls fi d= .loc→t≠d)→lkG E'.loc t=lkG E0.loc t)→gOps std P sh sf fi ops rest (putGT fi E' o.dst (.raw Go.undef)) H K1=gOps std P sh sf fi ops rest (putGT fi E' o.dst (.raw Go.undef)) H K2:=by
   intro E' he'
   exact ih _ hr fun t ht=>(loc_putT hdst ht).trans (he' t ht)
  simp only [gOps,gGuard]
  split
  ·exact run E he
  ·rename_i j want hg
   split
   ·rename_i k hk
    have hkd:cls fi k= .loc→k=d:=by
     cases hj:ops[j]? with
     |none=>rw [hj] at hk;cases hk
     |some oj=>
      rw [hj] at hk
      exact hd oj (by
       have:=(Array.getElem?_eq_some_iff.1 hj)
       obtain ⟨h1,h2⟩:=this
       rw [←h2];exact Array.getElem_mem_toList h1) k hk
    have hp:∀ b,∀ t,(cls fi d= .loc→t≠d)→lkG (putGE fi k (.bool b) E).loc t=lkG E0.loc t:=fun b t ht=>(loc_put hkd ht).trans (he t ht)
    split
    ·rename_i b hb
     cases b<;>cases want<;>simp only [std,cond_true,cond_false]
     ·exact run _ (hp false)
     ·exact skip _ (hp false)
     ·exact skip _ (hp true)
     ·exact run _ (hp true)
    ·split
     ·rfl
     ·rfl
     ·exact skip E he
    ·rfl
   ·rfl
theorem locD_mem {fi:FI}:∀ {l:List Oper} {o:Oper} {k:Nat},o∈l→o.dst=some k→cls fi k= .loc→k∈locD fi l:=by
 intro l
 induction l with
 |nil=>intro o k h;cases h
 |cons a r ih=>
  intro o k h hk hc
  unfold locD
  rcases List.mem_cons.1 h with rfl |h
  ·rw [hk]
   simp only [hc]
   exact List.mem_cons_self
  ·have:=ih h hk hc
   split
   ·split
    ·exact List.mem_cons_of_mem _ this
    ·exact this
   ·exact this
theorem joinR_some {fi:FI} {ops:Array Oper} {d:Tmp} (h:joinR P sh fi ops=some d):(∀ o∈ops.toList,quiet P sh o=true∧∀ k,o.dst=some k→cls fi k= .loc→k=d)∧(cls fi d= .loc∨cls fi d= .tmp):=by
 unfold joinR at h
 replace h:=bif_some h;obtain ⟨hb,h⟩:=h
 replace hb:=Go.Gv.and_true hb
 split at h
 ·rename_i d' hd
  cases h
  refine ⟨fun o ho=> ⟨List.all_eq_true.1 hb.2 o ho,fun k hk hc=>?_⟩,?_⟩
  ·have:=locD_mem ho hk hc
   rw [hd] at this
   exact List.mem_singleton.1 this
  ·have:∀ {l:List Oper} {d:Nat},d∈locD fi l→cls fi d= .loc:=by
    intro l
    induction l with
    |nil=>intro d h;cases h
    |cons a r ih=>
     intro d h
     unfold locD at h
     split at h
     ·split at h
      ·rename_i hc
       rcases List.mem_cons.1 h with rfl |h
       ·exact hc
       ·exact ih h
      ·exact ih h
     ·exact ih h
   exact .inl (this (l:=ops.toList) (by rw [hd];exact List.mem_singleton.2 rfl))
 ·rename_i hd
  split at h
  ·split at h
   ·rename_i hc
    cases h
    refine ⟨fun o ho=> ⟨List.all_eq_true.1 hb.2 o ho,fun k hk hc=>?_⟩,.inr hc⟩
    have:=locD_mem ho hk hc
    rw [hd] at this
    cases this
   ·cases h
  ·cases h
 ·cases h
theorem noSelf_ok {self:Self}:SelfOK P hint sh (noSelf (β:=β)) self:= ⟨(fun h=>by cases h),(fun h=>by cases h),fun h _ _ _ _ _ _=> .inl h⟩
end
end Go.Gv
