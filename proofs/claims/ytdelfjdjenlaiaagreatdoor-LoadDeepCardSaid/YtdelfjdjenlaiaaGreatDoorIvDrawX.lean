/- Regions that draw their order, the first part: what an operation looks at; what goes ahead of what; the evaluator's own walk taken to pieces. -/
import Derived.Test.YtdelfjdjenlaiaaGreatDoorIvEval
import Derived.Orders
import Derived.Test.YtdelfjdjenlaiaaGreatDoorIvPureX
import Derived.Test.YtdelfjdjenlaiaaGreatDoorIvRunX
set_option linter.unusedSimpArgs false
set_option linter.unusedVariables false
namespace Go.Iv
open Go
variable {P:Program} {sf:Self} {ops:Array Oper}
theorem JJ {Z Z':Operand->Value} {H:IH} (o:Oper) (h:∀ x∈o.op.operands,Z x=Z' x):aO P sf Z H o=aO P sf Z' H o:=by
 obtain ⟨dst,op,type,pos,after,guard⟩:=o
 have pairs:∀ ps:Array (Nat×Operand),(∀ x∈ps.map (·.2),Z x=Z' x)->
   (ps.toList.map fun p=>(p.1,Z p.2))=(ps.toList.map fun p=>(p.1,Z' p.2)):=fun ps hp=>
  List.map_congr_left fun p hm=>by
   obtain ⟨i,x⟩:=p;simp only [hp x (Array.mem_map.2 ⟨(i,x),by simpa using hm,rfl⟩)]
 have arr:∀ l:Array Operand,(∀ x∈l,Z x=Z' x)->l.toList.map Z=l.toList.map Z':=fun l hl=>
  List.map_congr_left fun x hx=>hl x (by simpa using hx)
 have opt:∀ l:Option Operand,(∀ x∈l.toArray,Z x=Z' x)->l.map Z=l.map Z':=fun l hl=>by
  cases l with
  |none=>rfl
  |some x=>simp only [Option.map_some,hl x (by simp)]
 cases op<;>simp only [Op.operands] at h<;>simp only [aO]
 case build t ps=>rw [pairs ps fun x hx=>h x (by simpa using hx)]
 case buildSlice t n ps=>rw [pairs ps fun x hx=>h x (by simpa using hx)]
 case makeFunc fn first captured=>rw [arr first fun x hx=>h x (by simp [hx]),arr captured fun x hx=>h x (by simp [hx])]
 case makeMap t r=>rw [opt r h]
 case slice t x lo hi mx=>
  rw [h x (by simp),opt lo fun y hy=>h y (by simp at hy ⊢;simp [hy]),opt hi fun y hy=>h y (by simp at hy ⊢;simp [hy]),opt mx fun y hy=>h y (by simp at hy ⊢;simp [hy])]
 case call c=>
  obtain ⟨callee,args,ats⟩:=c;have ha:=arr args fun x hx=>h x (by simp [Call.operands,hx])
  unfold da;cases callee with
  |builtin b=>simp only [ha]
  |value f=>have hf:=h f (by simp [Call.operands]);simp only [ha,hf]
  |invoke r m=>rfl
 case defer c=>
  obtain ⟨callee,args,ats⟩:=c;have ha:=arr args fun x hx=>h x (by simp [Call.operands,hx])
  cases callee with
  |builtin b=>rfl
  |value f=>have hf:=h f (by simp [Call.operands]);simp only [ha,hf]
  |invoke r m=>rfl
 case next it b=>cases b with
  |false=>rfl
  |true=>exact congrArg (lU H) (h it (by simp))
 all_goals (first |rfl |(simp at h;simp only [h];done))
variable {fi:FI}
def C8 (fi:FI) (l:List Tmp) (T:En):Operand->Value
 | .tmp t=>if l.contains t then fw fi T t else aS
 |x=>dC fi T x
theorem MF {T:En} {H:IH} {o:Oper}:aO P sf (C8 fi (o.looksAt ops) T) H o=aO P sf (dC fi T) H o:=by
 refine JJ o fun x hx=>?_
 cases x with
 |tmp t=>
  have:t∈o.looksAt ops:=List.mem_append_left _ (List.mem_filterMap.2 ⟨.tmp t,by simpa using hx,rfl⟩);simp [C8,this,dC]
 |const v=>rfl
 |global g=>rfl
 |func f=>rfl
def wV (A:List Nat) (o:Oper):Nat:=o.after.toList.foldl (fun s e=>if Region.binds .any e then s |||2^e.on |||A.getD e.on 0 else s) 0
theorem qL:∀ (l:List Oper) (acc:List Nat),∃ r,cX l acc=acc++r/\r.length=l.length/\∀ k o,l[k]? =some o->r[k]? =some (wV (acc++r.take k) o):=by
 intro l
 induction l with
 |nil=>intro acc;exact ⟨[],by simp [cX],rfl,fun k o h=>by simp at h⟩
 |cons o l ih=>
  intro acc;obtain ⟨r,h1,h2,h3⟩:=ih (acc++ [wV acc o]);refine ⟨wV acc o::r,?_,by simp [h2],?_⟩
  ·simp only [cX]
   have:cX l (acc++ [wV acc o])=acc++wV acc o::r:=by rw [h1];simp
   exact this
  ·intro k x hk
   cases k with
   |zero=>simp at hk;subst hk;simp
   |succ k=>
    simp at hk;have:=h3 k x hk;simp only [List.getElem?_cons_succ,List.take_succ_cons];rw [this];simp
theorem NF (A:List Nat) (j:Nat):∀ (l:List Edge) (s:Nat),
  (l.foldl (fun s e=>if Region.binds .any e then s |||2^e.on |||A.getD e.on 0 else s) s).testBit j=true↔
   (s.testBit j=true∨∃ e∈l,Region.binds .any e=true/\(j=e.on∨(A.getD e.on 0).testBit j=true)):=by
 intro l
 induction l with
 |nil=>intro s;simp
 |cons e l ih=>
  intro s;simp only [List.foldl_cons];rw [ih];cases hb:Region.binds .any e with
  |false=>simp [hb]
  |true=>
   simp only [if_true,Nat.testBit_or,Bool.or_eq_true,Nat.testBit_two_pow,decide_eq_true_eq,List.mem_cons];constructor
   ·rintro (((h |h) |h) |h)
    ·exact .inl h
    ·exact .inr ⟨e,.inl rfl,hb,.inl h.symm⟩
    ·exact .inr ⟨e,.inl rfl,hb,.inr h⟩
    ·obtain ⟨e',h1,h2⟩:=h;exact .inr ⟨e',.inr h1,h2⟩
   ·rintro (h |⟨e',rfl |h1,h2,h3⟩)
    ·exact .inl (.inl (.inl h))
    ·rcases h3 with h3 |h3
     ·exact .inl (.inl (.inr h3.symm))
     ·exact .inl (.inr h3)
    ·exact .inr ⟨e',h1,h2,h3⟩
def pm (ops:Array Oper) (i:Nat):Nat:=(cX ops.toList []).getD i 0
theorem VB:(cX ops.toList []).length=ops.size:=by
 obtain ⟨r,h1,h2, -⟩:=qL ops.toList [];rw [h1];simp [h2]
theorem QH {i:Nat} (hi:i<ops.size):(cX ops.toList [])[i]? =some (pm ops i):=by
 have:i<(cX ops.toList []).length:=by rw [VB];exact hi
 simp [pm,List.getD_eq_getElem?_getD,this]
def Uu (ops:Array Oper):Prop:=∀ i o,ops[i]? =some o->∀ e∈o.after,Region.binds .any e=true->e.on<i
theorem Pm (hb:Uu ops) {i j:Nat} {o:Oper} (ho:ops[i]? =some o):
  (pm ops i).testBit j=true↔∃ e∈o.after,Region.binds .any e=true/\(j=e.on∨(pm ops e.on).testBit j=true):=by
 obtain ⟨r,h1,h2,h3⟩:=qL ops.toList [];have hk:=h3 i o (by simpa using ho);have e1:pm ops i=wV (r.take i) o:=by
  simp only [pm,h1,List.nil_append,List.getD_eq_getElem?_getD,hk,Option.getD_some]
 rw [e1];unfold wV;rw [NF];simp only [Nat.zero_testBit,Bool.false_eq_true,false_or,Array.mem_toList_iff];have e2:∀ e∈o.after,Region.binds .any e=true->(r.take i).getD e.on 0=pm ops e.on:=by
  intro e he hbe;have hlt:=hb i o ho e he hbe;simp only [pm,h1,List.nil_append,List.getD_eq_getElem?_getD];rw [List.getElem?_take_of_lt hlt]
 constructor
 ·rintro ⟨e,h1,h2,h3⟩;exact ⟨e,h1,h2,h3.imp id fun x=>by rw [←e2 e h1 h2];exact x⟩
 ·rintro ⟨e,h1,h2,h3⟩;exact ⟨e,h1,h2,h3.imp id fun x=>by rw [e2 e h1 h2];exact x⟩
theorem Xm (hb:Uu ops):∀ (i:Nat) {j:Nat},i<ops.size->(pm ops i).testBit j=true->j<i:=by
 intro i
 induction i using Nat.strongRecOn with
 |_ i ih=>
  intro j hi h;obtain ⟨e,h1,h2,h3⟩:=(Pm hb (Array.getElem?_eq_getElem hi)).1 h;have hlt:=hb i _ (Array.getElem?_eq_getElem hi) e h1 h2;rcases h3 with rfl |h3
  ·exact hlt
  ·have:=ih e.on hlt (by omega) h3;omega
theorem zH (h:jT ops (cX ops.toList [])=true):
  Uu ops/\(∀ (i j:Nat) (oi oj:Oper) (t:Tmp),ops[i]? =some oi->ops[j]? =some oj->oi.dst=some t->oj.dst=some t->i=j)/\
  (∀ (i j:Nat) (oi oj:Oper) (t:Tmp),ops[i]? =some oi->ops[j]? =some oj->oj.dst=some t->t∈oi.looksAt ops->(pm ops i).testBit j=true∨(pm ops j).testBit i=true):=by
 unfold jT at h;rw [List.all_eq_true] at h
 have key:∀ (i:Nat) (oi:Oper),ops[i]? =some oi->(oi.after.toList.all (fun e=> !Region.binds .any e ||decide (e.on<i))=true)/\
   ∀ j oj t,ops[j]? =some oj->oj.dst=some t->(i=j∨oi.dst≠some t)/\((pm ops i).testBit j=true∨(pm ops j).testBit i=true∨t∉oi.looksAt ops):=by
  intro i oi hi;have hlt:i<ops.size:=(Array.getElem?_eq_some_iff.1 hi).1;have h1:=h i (List.mem_range.2 hlt);rw [hi,QH hlt] at h1;simp only [zae] at h1;refine ⟨h1.1,fun j oj t hj hd=>?_⟩;have hjlt:j<ops.size:=(Array.getElem?_eq_some_iff.1 hj).1;have h2:=(List.all_eq_true.1 h1.2) j (List.mem_range.2 hjlt);rw [hj] at h2;simp only [hd,zae,Bool.or_eq_true,beq_iff_eq,bne_iff_ne,Bool.not_eq_true'] at h2;obtain ⟨h3,h4⟩:=h2;refine ⟨h3.imp Eq.symm id,?_⟩;rcases h4 with (h4 |h4) |h4
  ·exact .inl h4
  ·exact .inr (.inl h4)
  ·exact .inr (.inr (by simpa using h4))
 refine ⟨?_,?_,?_⟩
 ·intro i o hi e he hb
  have:=(List.all_eq_true.1 (key i o hi).1) e (by simpa using he);simpa [hb] using this
 ·intro i j oi oj t hi hj hdi hdj
  exact ((key i oi hi).2 j oj t hj hdj).1.resolve_right (fun x=>x hdi)
 ·intro i j oi oj t hi hj hdj ht
  rcases ((key i oi hi).2 j oj t hj hdj).2 with x |x |x
  ·exact .inl x
  ·exact .inr x
  ·exact absurd ht x
inductive sQ (P:Program) (sf:Self) (fi:FI) (ops:Array Oper) (n0 i:Nat) (o:Oper) (m:Nat) (s s':DS):Prop
 |off (h:bG fi ops s.T o=some false) (e:s'={ s with T:=c8 fi s.T o.dst undef })
 |pure (h:bG fi ops s.T o=some true) (k:kindOf P o= .pure) (v:Value) (H1:IH) (he:aO P sf (dC fi s.T) s.H o=some (.val v H1)) (e:s'={ s with T:=c8 fi s.T o.dst v })
 |read (h:bG fi ops s.T o=some true) (k:kindOf P o= .read) (v:Value) (H1:IH) (he:aO P sf (dC fi s.T) s.H o=some (.val v H1)) (hs:fJ P sf fi s.T o v m s.bR=true)
   (e:s'={ s with T:=c8 fi s.T o.dst v,reads:=⟨i,o,s.T,v⟩::s.reads })
 |fresh (h:bG fi ops s.T o=some true) (k:kindOf P o= .fresh) (v:Value) (H1:IH) (ob:bA) (he:aO P sf (dC fi s.T) { s.H with n:=n0+i } o=some (.val v H1)) (hb:H1.get (n0+i)=some ob)
   (e:s'={ s with T:=c8 fi s.T o.dst v,bt:=(i,ob)::s.bt })
 |chain (h:bG fi ops s.T o=some true) (k:kindOf P o= .chain) (v:Value) (H1:IH) (res:ag) (hc:chained m s.bR=true) (hres:res= .val v H1∨(res= .skip H1/\v=undef))
   (he:aO P sf (dC fi s.T) (au n0 (s.bt.filter fun x=>m.testBit x.1) s.H) o=some res) (hr:gp P sf fi H1 m s.reads=true)
   (e:s'=⟨c8 fi s.T o.dst v,H1,s.bt.filter fun x=> !m.testBit x.1,(i,s.H)::s.bR,s.reads⟩)
theorem nK {n0 i m:Nat} {o:Oper} {s s':DS} (h:dH P sf fi ops n0 i o m s= .done s'):sQ P sf fi ops n0 i o m s s':=by
 unfold dH at h;split at h
 ·rename_i hw
  split at h
  ·rename_i hk
   split at h
   ·rename_i v H1 he;cases h;exact .pure hw hk v H1 he rfl
   ·cases h
  ·rename_i hk
   split at h
   ·rename_i v H1 he
    split at h
    ·rename_i hs;cases h;exact .read hw hk v H1 he hs rfl
    ·cases h
   ·cases h
  ·rename_i hk
   split at h
   ·rename_i v H1 he
    split at h
    ·rename_i ob hb;cases h;exact .fresh hw hk v H1 ob he hb rfl
    ·cases h
   ·cases h
  ·rename_i hk
   split at h
   ·rename_i hc
    split at h
    ·rename_i v H1 he
     split at h
     ·rename_i hr;cases h;exact .chain hw hk v H1 _ hc (.inl rfl) he hr rfl
     ·cases h
    ·rename_i H1 he
     split at h
     ·rename_i hr;cases h;exact .chain hw hk undef H1 _ hc (.inr ⟨rfl,rfl⟩) he hr rfl
     ·cases h
    ·cases h
    ·cases h
   ·cases h
 ·rename_i hw;cases h;exact .off hw rfl
 ·cases h
structure TL (P:Program) (sf:Self) (fi:FI) (ops:Array Oper) (n0:Nat) (o:Oper) (m:Nat) (s:DS) (v:Value) (H1:IH):Prop where
 wanted:bG fi ops s.T o=some true
 kind:kindOf P o= .chain
 chained:chained m s.bR=true
 ev:aO P sf (dC fi s.T) (au n0 (s.bt.filter fun x=>m.testBit x.1) s.H) o=some (.panic v H1)
theorem xE {n0 i m:Nat} {o:Oper} {s:DS} {v:Value} {H1:IH} (h:dH P sf fi ops n0 i o m s= .panic v H1):TL P sf fi ops n0 o m s v H1:=by
 unfold dH at h;split at h
 ·rename_i hw
  split at h
  ·split at h
   ·cases h
   ·cases h
  ·split at h
   ·split at h
    ·cases h
    ·cases h
   ·cases h
  ·split at h
   ·split at h
    ·cases h
    ·cases h
   ·cases h
  ·rename_i hk
   split at h
   ·rename_i hc
    split at h
    ·split at h
     ·cases h
     ·cases h
    ·split at h
     ·cases h
     ·cases h
    ·rename_i he;cases h;exact ⟨hw,hk,hc,he⟩
    ·cases h
   ·cases h
 ·cases h
 ·cases h
theorem Dx {n0 c:Nat} {v:Value} {Hp:IH}:∀ (l:List Oper) (i:Nat) (ms:List Nat) (s:DS) (R:DR),aU P sf fi ops n0 l i ms s (some (c,v,Hp))=R->R≠ .fail->
  ∃ S:Nat->DS,S i=s/\R= .panic v Hp/\∀ j o m,l[j]? =some o->ms[j]? =some m->
   (m.testBit c=true->S (i+j+1)=S (i+j))/\(m.testBit c=false->sQ P sf fi ops n0 (i+j) o m (S (i+j)) (S (i+j+1))):=by
 intro l
 induction l with
 |nil=>intro i ms s R h hn;unfold aU at h;exact ⟨fun _=>s,rfl,h.symm,fun j o m hj=>by simp at hj⟩
 |cons o l ih=>
  intro i ms s R h hn;cases ms with
  |nil=>unfold aU at h;exact absurd h.symm hn
  |cons m ms=>
   unfold aU at h
   have build:∀ (s1:DS),aU P sf fi ops n0 l (i+1) ms s1 (some (c,v,Hp))=R->
     ((m.testBit c=true->s1=s)/\(m.testBit c=false->sQ P sf fi ops n0 i o m s s1))->
     ∃ S:Nat->DS,S i=s/\R= .panic v Hp/\∀ j o' m',(o::l)[j]? =some o'->(m::ms)[j]? =some m'->
      (m'.testBit c=true->S (i+j+1)=S (i+j))/\(m'.testBit c=false->sQ P sf fi ops n0 (i+j) o' m' (S (i+j)) (S (i+j+1))):=by
    intro s1 h1 hst;obtain ⟨S,hS,hR,hstep⟩:=ih (i+1) ms s1 R h1 hn;refine ⟨fun k=>if k=i then s else S k,by simp,hR,?_⟩;intro j o' m' ho hm;cases j with
    |zero=>
     simp at ho hm;subst ho;subst hm;simpa [hS] using hst
    |succ j=>
     simp at ho hm;have:=hstep j o' m' ho hm;have e1:i+1+j=i+(j+1):=by omega
     rw [e1] at this;simp only [if_neg (show ¬ (i+(j+1)+1=i) by omega),if_neg (show ¬ (i+(j+1)=i) by omega)];exact this
   split at h
   ·rename_i hb;exact build s h ⟨fun _=>rfl,fun x=>by rw [hb] at x;cases x⟩
   ·rename_i hb
    split at h
    ·rename_i s1 hd;exact build s1 h ⟨fun x=>absurd x hb,fun _=>nK hd⟩
    ·exact absurd h.symm hn
structure Trace (P:Program) (sf:Self) (fi:FI) (ops:Array Oper) (n0:Nat) (S:Nat->DS) (C:Nat) (R:DR):Prop where
 ZN:C<=ops.size
 step:∀ i o,ops[i]? =some o->(i<C∨(C<i/\(pm ops i).testBit C=false))->sQ P sf fi ops n0 i o (pm ops i) (S i) (S (i+1))
 skip:∀ i o,ops[i]? =some o->C<i->(pm ops i).testBit C=true->S (i+1)=S i
 I8:∀ o,ops[C]? =some o->∃ v Hp,R= .panic v Hp/\TL P sf fi ops n0 o (pm ops C) (S C) v Hp/\S (C+1)={ S C with bR:=(C,(S C).H)::(S C).bR }
 fin:C=ops.size->R= .done (S ops.size)
theorem Gn {n0:Nat}:∀ (l:List Oper) (i:Nat) (ms:List Nat) (s:DS) (R:DR),aU P sf fi ops n0 l i ms s none=R->R≠ .fail->
  ∃ (S:Nat->DS) (C:Nat),S i=s/\i<=C/\C<=i+l.length/\(C=i+l.length->R= .done (S (i+l.length)))/\
   ∀ j o m,l[j]? =some o->ms[j]? =some m->
   (i+j<C->sQ P sf fi ops n0 (i+j) o m (S (i+j)) (S (i+j+1)))/\
   (i+j=C->∃ v Hp,R= .panic v Hp/\TL P sf fi ops n0 o m (S (i+j)) v Hp/\S (i+j+1)={ S (i+j) with bR:=(i+j,(S (i+j)).H)::(S (i+j)).bR })/\
   (C<i+j->(m.testBit C=true->S (i+j+1)=S (i+j))/\(m.testBit C=false->sQ P sf fi ops n0 (i+j) o m (S (i+j)) (S (i+j+1)))):=by
 intro l
 induction l with
 |nil=>intro i ms s R h hn;unfold aU at h;exact ⟨fun _=>s,i,rfl,zai _,by simp,fun _=>h.symm,fun j o m hj=>by simp at hj⟩
 |cons o l ih=>
  intro i ms s R h hn;cases ms with
  |nil=>unfold aU at h;exact absurd h.symm hn
  |cons m ms=>
   unfold aU at h;split at h
   ·rename_i s1 hd
    obtain ⟨S,C,hS,hC,hC2,hR,hstep⟩:=ih (i+1) ms s1 R h hn;refine ⟨fun k=>if k=i then s else S k,C,by simp,by omega,by simp;omega,fun e=>?_,?_⟩
    ·simp only [zad] at e ⊢
     simp only [if_neg (show ¬ (i+(l.length+1)=i) by omega)];rw [show i+(l.length+1)=i+1+l.length by omega];exact hR (by omega)
    intro j o' m' ho hm;cases j with
    |zero=>
     simp at ho hm;subst ho;subst hm;refine ⟨fun _=>by simpa [hS] using nK hd,fun e=>by omega,fun e=>by omega⟩
    |succ j=>
     simp at ho hm;have:=hstep j o' m' ho hm;have e1:i+1+j=i+(j+1):=by omega
     rw [e1] at this;simp only [if_neg (show ¬ (i+(j+1)+1=i) by omega),if_neg (show ¬ (i+(j+1)=i) by omega)];exact this
   ·rename_i v Hp hd
    obtain ⟨S,hS,hR,hstep⟩:=Dx l (i+1) ms _ R h hn;refine ⟨fun k=>if k=i then s else S k,i,by simp,zai _,by simp,fun e=>by simp at e,?_⟩;intro j o' m' ho hm;cases j with
    |zero=>
     simp at ho hm;subst ho;subst hm;refine ⟨fun e=>by omega,fun _=>⟨v,Hp,hR,by simpa using xE hd,by simp [hS]⟩,fun e=>by omega⟩
    |succ j=>
     simp at ho hm;have:=hstep j o' m' ho hm;have e1:i+1+j=i+(j+1):=by omega
     rw [e1] at this;simp only [if_neg (show ¬ (i+(j+1)+1=i) by omega),if_neg (show ¬ (i+(j+1)=i) by omega)];exact ⟨fun e=>by omega,fun e=>by omega,fun _=>this⟩
   ·exact absurd h.symm hn
theorem Rc {n0:Nat} {s:DS} {R:DR} (h:aU P sf fi ops n0 ops.toList 0 (cX ops.toList []) s none=R) (hn:R≠ .fail):
  ∃ S C,S 0=s/\Trace P sf fi ops n0 S C R:=by
 obtain ⟨S,C,h1, -,h3,h4,h5⟩:=Gn _ _ _ _ _ h hn;simp only [Nat.zero_add,Array.length_toList] at h3 h4 h5;have get:∀ i o,ops[i]? =some o->ops.toList[i]? =some o/\(cX ops.toList [])[i]? =some (pm ops i):=fun i o ho=>
  ⟨by simpa using ho,QH (Array.getElem?_eq_some_iff.1 ho).1⟩
 refine ⟨S,C,h1,h3,?_,?_,?_,h4⟩
 ·intro i o ho hc
  obtain ⟨g1,g2⟩:=get i o ho;obtain ⟨p1, -,p3⟩:=h5 i o _ g1 g2;rcases hc with hc |⟨hc,hb⟩
  ·exact p1 hc
  ·exact (p3 hc).2 hb
 ·intro i o ho hc hb
  obtain ⟨g1,g2⟩:=get i o ho;exact ((h5 i o _ g1 g2).2.2 hc).1 hb
 ·intro o ho
  obtain ⟨g1,g2⟩:=get C o ho;exact (h5 C o _ g1 g2).2.1 rfl
end Go.Iv
/- Regions that draw their order, the second part: what the evaluator's own walk has at hand at each operation. -/
namespace Go.Iv
open Go
structure iV (P:Program) (sf:Self) (fi:FI) (ops:Array Oper) (n0:Nat) (T0:En) (H0:IH) (S:Nat->DS) (C:Nat) (R:DR):Prop where
 tr:Trace P sf fi ops n0 S C R
 start:S 0=⟨T0,H0,[],[],[]⟩
 back:Uu ops
 uniq:∀ (i j:Nat) (oi oj:Oper) (t:Tmp),ops[i]? =some oi->ops[j]? =some oj->oi.dst=some t->oj.dst=some t->i=j
 looks:∀ (i j:Nat) (oi oj:Oper) (t:Tmp),ops[i]? =some oi->ops[j]? =some oj->oj.dst=some t->t∈oi.looksAt ops->(pm ops i).testBit j=true∨(pm ops j).testBit i=true
def oo (ops:Array Oper) (i:Nat):Oper:=ops.getD i default
theorem gW {ops:Array Oper} {i:Nat} (h:i<ops.size):ops[i]? =some (oo ops i):=by simp [oo,h]
def Ok (ops:Array Oper) (C i:Nat):Prop:=i<ops.size/\(i<C∨(C<i/\(pm ops i).testBit C=false))
def On (fi:FI) (ops:Array Oper) (S:Nat->DS) (i:Nat):Prop:=bG fi ops (S i).T (oo ops i)=some true
def Ch (P:Program) (fi:FI) (ops:Array Oper) (S:Nat->DS) (C i:Nat):Prop:=Ok ops C i/\kindOf P (oo ops i)= .chain/\On fi ops S i
def EN (P:Program) (fi:FI) (ops:Array Oper) (S:Nat->DS) (C i:Nat):Prop:=Ch P fi ops S C i∨(i=C/\C<ops.size)
def Fr (P:Program) (fi:FI) (ops:Array Oper) (S:Nat->DS) (C i:Nat):Prop:=Ok ops C i/\kindOf P (oo ops i)= .fresh/\On fi ops S i
noncomputable def qo (P:Program) (sf:Self) (fi:FI) (ops:Array Oper) (n0:Nat) (S:Nat->DS) (f:Nat):bA:=
 match aO P sf (dC fi (S f).T) { (S f).H with n:=n0+f } (oo ops f) with
 |some (.val _ H1)=>(H1.get (n0+f)).getD (.mf true)
 |_=> .mf true
theorem KJ {fi:FI} {T:En} {d:Option Tmp} {t:Nat} (v:Value) (h:d≠some t):fw fi (c8 fi T d v) t=fw fi T t:=by
 cases d with
 |none=>rfl
 |some d=>simp only [c8,qP];rw [if_neg];rintro ⟨rfl, -⟩;exact h rfl
theorem KI {fi:FI} (T:En) {t:Nat} (v:Value) (h:t<fi.nt):fw fi (c8 fi T (some t) v) t=v:=by
 simp only [c8,qP];simp [h]
theorem Cy {fi:FI} (T:En) {t:Nat} (h:fi.nt<=t):fw fi T t=aS:=by
 unfold fw cls;rw [Nat.ble_eq_true_of_le h];rfl
theorem C3 {m:Nat}:∀ {l:List (Nat×IH)},chained m l=true->∀ p∈l,m.testBit p.1=true:=by
 intro l
 induction l with
 |nil=>intro _ p hp;cases hp
 |cons x l ih=>
  intro h p hp;obtain ⟨c,Hc⟩:=x;simp only [chained,zae] at h;rcases List.mem_cons.1 hp with rfl |hp
  ·exact h.1
  ·exact ih h.2 p hp
theorem Cj {P:Program} {sf:Self} {fi:FI} {T:En} {o:Oper} {v:Value} {m:Nat}:∀ {l:List (Nat×IH)},fJ P sf fi T o v m l=true->∀ p∈l,m.testBit p.1=true∨sameAt P sf fi T p.2 o v=true:=by
 intro l
 induction l with
 |nil=>intro _ p hp;cases hp
 |cons x l ih=>
  intro h p hp;obtain ⟨c,Hc⟩:=x;simp only [fJ,zae,Bool.or_eq_true] at h;rcases List.mem_cons.1 hp with rfl |hp
  ·exact h.1
  ·exact ih h.2 p hp
theorem CN {P:Program} {sf:Self} {fi:FI} {H:IH} {m:Nat}:∀ {l:List Rd},gp P sf fi H m l=true->∀ r∈l,m.testBit r.i=true∨sameAt P sf fi r.T H r.o r.v=true:=by
 intro l
 induction l with
 |nil=>intro _ p hp;cases hp
 |cons x l ih=>
  intro h p hp;simp only [gp,zae,Bool.or_eq_true] at h;rcases List.mem_cons.1 hp with rfl |hp
  ·exact h.1
  ·exact ih h.2 p hp
theorem gA {ops:Array Oper} {C:Nat}:¬ Ok ops C C:=by rintro ⟨-,h |⟨h, -⟩⟩<;>omega
theorem SU {P:Program} {fi:FI} {ops:Array Oper} {S:Nat->DS} {C i:Nat} (h:Fr P fi ops S C i):i<fV P ops:=by
 have hi:=h.1.1;unfold fV;rw [if_pos]
 ·exact hi
 ·rw [List.any_eq_true]
  refine ⟨oo ops i,?_,by simpa using h.2.1⟩;have:=gW hi;simpa using Array.mem_of_getElem? this
section
variable {P:Program} {sf:Self} {fi:FI} {ops:Array Oper} {n0:Nat} {T0:En} {H0:IH} {S:Nat->DS} {C:Nat} {R:DR} (W:iV P sf fi ops n0 T0 H0 S C R)
include W
theorem iV.step {i:Nat} (h:Ok ops C i):sQ P sf fi ops n0 i (oo ops i) (pm ops i) (S i) (S (i+1)):=W.tr.step i _ (gW h.1) h.2
theorem iV.I8 (h:C<ops.size):∃ v Hp,R= .panic v Hp/\TL P sf fi ops n0 (oo ops C) (pm ops C) (S C) v Hp/\S (C+1)={ S C with bR:=(C,(S C).H)::(S C).bR }:=W.tr.I8 _ (gW h)
theorem iV.cases (i:Nat) (hi:i<ops.size):Ok ops C i∨(i=C/\C<ops.size)∨(C<i/\(pm ops i).testBit C=true/\S (i+1)=S i):=by
 rcases Nat.lt_trichotomy i C with h |h |h
 ·exact .inl ⟨hi,.inl h⟩
 ·exact .inr (.inl ⟨h,h▸hi⟩)
 ·cases hb:(pm ops i).testBit C with
  |false=>exact .inl ⟨hi,.inr ⟨h,hb⟩⟩
  |true=>exact .inr (.inr ⟨h,rfl,W.tr.skip i _ (gW hi) h hb⟩)
theorem iV.WE (i:Nat) (hi:i<ops.size):(S (i+1)).T=(S i).T∨(Ok ops C i/\∃ v,(S (i+1)).T=c8 fi (S i).T (oo ops i).dst v):=by
 rcases W.cases i hi with h |⟨rfl,h⟩ |⟨-, -,h⟩
 ·cases W.step h with
  |off _ e=>exact .inr ⟨h,_,by rw [e]⟩
  |pure _ _ v _ _ e=>exact .inr ⟨h,v,by rw [e]⟩
  |read _ _ v _ _ _ e=>exact .inr ⟨h,v,by rw [e]⟩
  |fresh _ _ v _ _ _ _ e=>exact .inr ⟨h,v,by rw [e]⟩
  |chain _ _ v _ _ _ _ _ _ e=>exact .inr ⟨h,v,by rw [e]⟩
 ·obtain ⟨v,Hp, -, -,e⟩:=W.I8 h;exact .inl (by rw [e])
 ·exact .inl (by rw [h])
theorem iV.Ca {t:Nat}:∀ (k j:Nat),j<=k->k<=ops.size->(∀ x,j<=x->x<k->(oo ops x).dst≠some t)->fw fi (S k).T t=fw fi (S j).T t:=by
 intro k
 induction k with
 |zero=>intro j hj _ _;rw [show j=0 by omega]
 |succ k ih=>
  intro j hj hk h;rcases Nat.lt_or_ge k j with hjk |hjk
  ·rw [show j=k+1 by omega]
  ·rw [←ih j hjk (by omega) fun x h1 h2=>h x h1 (by omega)]
   rcases W.WE k (by omega) with e |⟨-,v,e⟩
   ·rw [e]
   ·rw [e];exact KJ v (h k hjk (by omega))
theorem iV.Wz (i:Nat) (hi:i<ops.size) (h:¬ Ch P fi ops S C i):(S (i+1)).H=(S i).H:=by
 rcases W.cases i hi with hk |⟨rfl,hk⟩ |⟨-, -,hk⟩
 ·cases W.step hk with
  |off _ e=>rw [e]
  |pure _ _ v _ _ e=>rw [e]
  |read _ _ v _ _ _ e=>rw [e]
  |fresh _ _ v _ _ _ _ e=>rw [e]
  |chain a b _ _ _ _ _ _ _ e=>exact absurd ⟨hk,b,a⟩ h
 ·obtain ⟨v,Hp, -, -,e⟩:=W.I8 hk;rw [e]
 ·rw [hk]
theorem iV.Dr:∀ (k j:Nat),j<=k->k<=ops.size->(∀ x,j<=x->x<k->¬ Ch P fi ops S C x)->(S k).H=(S j).H:=by
 intro k
 induction k with
 |zero=>intro j hj _ _;rw [show j=0 by omega]
 |succ k ih=>
  intro j hj hk h;rcases Nat.lt_or_ge k j with hjk |hjk
  ·rw [show j=k+1 by omega]
  ·rw [←ih j hjk (by omega) fun x h1 h2=>h x h1 (by omega)]
   exact W.Wz k (by omega) (h k hjk (by omega))
theorem iV.bR:∀ k,k<=ops.size->∀ i,i<k->EN P fi ops S C i->(i,(S i).H)∈(S k).bR:=by
 intro k
 induction k with
 |zero=>intro _ i hi;omega
 |succ k ih=>
  intro hk i hi hc;have old:i<k->(i,(S i).H)∈(S k).bR:=fun h=>ih (by omega) i h hc
  rcases W.cases k (by omega) with hok |⟨rfl,hok⟩ |⟨h1,h2,hok⟩
  ·have ne:¬ kindOf P (oo ops k)= .chain->i<k:=by
    intro h;rcases Nat.lt_or_ge i k with h' |h'
    ·exact h'
    ·have:i=k:=by omega
     subst this;rcases hc with hc |⟨rfl,_⟩
     ·exact absurd hc.2.1 h
     ·exact absurd hok gA
   cases W.step hok with
   |off a e=>
    rw [e];rcases Nat.lt_or_ge i k with h' |h'
    ·exact old h'
    ·have:i=k:=by omega
     subst this;rcases hc with hc |⟨rfl,_⟩
     ·have:=hc.2.2;unfold On at this;rw [a] at this;cases this
     ·exact absurd hok gA
   |pure _ b v _ _ e=>rw [e];exact old (ne (by rw [b];intro x;cases x))
   |read _ b v _ _ _ e=>rw [e];exact old (ne (by rw [b];intro x;cases x))
   |fresh _ b v _ _ _ _ e=>rw [e];exact old (ne (by rw [b];intro x;cases x))
   |chain a b _ _ _ _ _ _ _ e=>
    rw [e];rcases Nat.lt_or_ge i k with h' |h'
    ·exact zak _ (old h')
    ·have:i=k:=by omega
     subst this;exact List.mem_cons_self
  ·obtain ⟨v,Hp, -, -,e⟩:=W.I8 hok
   rw [e];rcases Nat.lt_or_ge i k with h' |h'
   ·exact zak _ (old h')
   ·have:i=k:=by omega
    subst this;exact List.mem_cons_self
  ·rw [hok]
   rcases Nat.lt_or_ge i k with h' |h'
   ·exact old h'
   ·have:i=k:=by omega
    subst this;rcases hc with hc |⟨rfl,_⟩
    ·rcases hc.1.2 with x |⟨-,x⟩
     ·omega
     ·rw [h2] at x;cases x
    ·omega
theorem iV.reads:∀ k,k<=ops.size->∀ i,i<k->Ok ops C i->kindOf P (oo ops i)= .read->On fi ops S i->∀ v H1,aO P sf (dC fi (S i).T) (S i).H (oo ops i)=some (.val v H1)->(⟨i,oo ops i,(S i).T,v⟩:Rd)∈(S k).reads:=by
 intro k
 induction k with
 |zero=>intro _ i hi;omega
 |succ k ih=>
  intro hk i hi hoi hki hon v H1 hev;have old:i<k->(⟨i,oo ops i,(S i).T,v⟩:Rd)∈(S k).reads:=fun h=>ih (by omega) i h hoi hki hon v H1 hev
  rcases W.cases k (by omega) with hok |⟨rfl,hok⟩ |⟨h1,h2,hok⟩
  ·have ne:kindOf P (oo ops k)≠ .read->i<k:=by
    intro h;rcases Nat.lt_or_ge i k with h' |h'
    ·exact h'
    ·have:i=k:=by omega
     subst this;exact absurd hki h
   cases W.step hok with
   |off a e=>
    rw [e];rcases Nat.lt_or_ge i k with h' |h'
    ·exact old h'
    ·have:i=k:=by omega
     subst this;unfold On at hon;rw [a] at hon;cases hon
   |pure _ b _ _ _ e=>rw [e];exact old (ne (by rw [b];intro x;cases x))
   |read _ b v1 H2 he _ e=>
    rw [e];rcases Nat.lt_or_ge i k with h' |h'
    ·exact zak _ (old h')
    ·have:i=k:=by omega
     subst this;rw [hev] at he;cases he;exact List.mem_cons_self
   |fresh _ b _ _ _ _ _ e=>rw [e];exact old (ne (by rw [b];intro x;cases x))
   |chain _ b _ _ _ _ _ _ _ e=>rw [e];exact old (ne (by rw [b];intro x;cases x))
  ·obtain ⟨v1,Hp, -, -,e⟩:=W.I8 hok
   rw [e];rcases Nat.lt_or_ge i k with h' |h'
   ·exact old h'
   ·have:i=k:=by omega
    subst this;exact absurd hoi gA
  ·rw [hok]
   rcases Nat.lt_or_ge i k with h' |h'
   ·exact old h'
   ·have:i=k:=by omega
    subst this;rcases hoi.2 with x |⟨-,x⟩
    ·omega
    ·rw [h2] at x;cases x
theorem iV.JQ {i j:Nat} (hi:i<ops.size) (h:(pm ops i).testBit j=true):j<i:=Xm W.back i hi h
theorem iV.bt:∀ k,k<=ops.size->∀ f ob,(f,ob)∈(S k).bt↔(f<k/\Fr P fi ops S C f/\ob=qo P sf fi ops n0 S f/\∀ x,x<k->Ch P fi ops S C x->(pm ops x).testBit f=false):=by
 intro k
 induction k with
 |zero=>intro _ f ob;rw [W.start];simp
 |succ k ih=>
  intro hk f ob;have hik:=ih (by omega) f ob
  have same:¬ Fr P fi ops S C k->¬ Ch P fi ops S C k->((f<k+1/\Fr P fi ops S C f/\ob=qo P sf fi ops n0 S f/\∀ x,x<k+1->Ch P fi ops S C x->(pm ops x).testBit f=false)↔
    (f<k/\Fr P fi ops S C f/\ob=qo P sf fi ops n0 S f/\∀ x,x<k->Ch P fi ops S C x->(pm ops x).testBit f=false)):=by
   intro h1 h2;constructor
   ·rintro ⟨a,b,c,d⟩
    refine ⟨?_,b,c,fun x hx=>d x (by omega)⟩;rcases Nat.lt_or_ge f k with h' |h'
    ·exact h'
    ·have:f=k:=by omega
     subst this;exact absurd b h1
   ·rintro ⟨a,b,c,d⟩
    refine ⟨by omega,b,c,fun x hx hcx=>?_⟩;rcases Nat.lt_or_ge x k with h' |h'
    ·exact d x h' hcx
    ·have:x=k:=by omega
     subst this;exact absurd hcx h2
  have notOk:¬ Ok ops C k->¬ Fr P fi ops S C k/\¬ Ch P fi ops S C k:=fun h=>⟨fun x=>h x.1,fun x=>h x.1⟩
  rcases W.cases k (by omega) with hok |⟨rfl,hok⟩ |⟨h1,h2,hok⟩
  ·cases W.step hok with
   |off a e=>
    rw [e,same (fun x=>?_) (fun x=>?_)];exact hik
    ·have:=x.2.2;unfold On at this;rw [a] at this;cases this
    ·have:=x.2.2;unfold On at this;rw [a] at this;cases this
   |pure _ b _ _ _ e=>rw [e,same (fun x=>by have:=x.2.1;rw [b] at this;cases this) (fun x=>by have:=x.2.1;rw [b] at this;cases this)];exact hik
   |read _ b _ _ _ _ e=>rw [e,same (fun x=>by have:=x.2.1;rw [b] at this;cases this) (fun x=>by have:=x.2.1;rw [b] at this;cases this)];exact hik
   |fresh a b v H1 ob1 he hb e=>
    rw [e];have hob:ob1=qo P sf fi ops n0 S k:=by unfold qo;rw [he];simp only;rw [hb];rfl
    simp only [List.mem_cons,Prod.mk.injEq];rw [hik];constructor
    ·rintro (⟨rfl,rfl⟩ |⟨h1,h2,h3,h4⟩)
     ·refine ⟨by omega,⟨hok,b,a⟩,hob,fun x hx hcx=>?_⟩
      cases hbit:(pm ops x).testBit f with
      |false=>rfl
      |true=>have:=W.JQ hcx.1.1 hbit;omega
     ·refine ⟨by omega,h2,h3,fun x hx hcx=>?_⟩
      rcases Nat.lt_or_ge x k with h' |h'
      ·exact h4 x h' hcx
      ·have:x=k:=by omega
       subst this;have:=hcx.2.1;rw [b] at this;cases this
    ·rintro ⟨h1,h2,h3,h4⟩
     rcases Nat.lt_or_ge f k with h' |h'
     ·exact .inr ⟨h',h2,h3,fun x hx=>h4 x (by omega)⟩
     ·have:f=k:=by omega
      subst this;exact .inl ⟨rfl,h3.trans hob.symm⟩
   |chain a b v H1 res hc hres he hr e=>
    rw [e];simp only [List.mem_filter,Bool.not_eq_true'];rw [hik];constructor
    ·rintro ⟨⟨h1,h2,h3,h4⟩,h5⟩
     refine ⟨by omega,h2,h3,fun x hx hcx=>?_⟩;rcases Nat.lt_or_ge x k with h' |h'
     ·exact h4 x h' hcx
     ·have:x=k:=by omega
      subst this;exact h5
    ·rintro ⟨h1,h2,h3,h4⟩
     refine ⟨⟨?_,h2,h3,fun x hx=>h4 x (by omega)⟩,h4 k (by omega) ⟨hok,b,a⟩⟩;rcases Nat.lt_or_ge f k with h' |h'
     ·exact h'
     ·have:f=k:=by omega
      subst this;have:=h2.2.1;rw [b] at this;cases this
  ·obtain ⟨v1,Hp, -, -,e⟩:=W.I8 hok
   have:=notOk gA;rw [e,same this.1 this.2];exact hik
  ·have:¬ Ok ops C k:=by
    rintro ⟨-,x |⟨-,x⟩⟩
    ·omega
    ·rw [h2] at x;cases x
   have:=notOk this;rw [hok,same this.1 this.2];exact hik
theorem iV.so {i j:Nat} (hi:EN P fi ops S C i) (hj:EN P fi ops S C j) (hij:i<j):(pm ops j).testBit i=true:=by
 have key:∀ m,chained m (S j).bR=true->j<ops.size->m.testBit i=true:=fun m h hlt=>C3 h _ (W.bR j (by omega) i hij hi)
 rcases hj with hj |⟨rfl,hj⟩
 ·cases W.step hj.1 with
  |off a e=>have:=hj.2.2;unfold On at this;rw [a] at this;cases this
  |pure _ b _ _ _ e=>have:=hj.2.1;rw [b] at this;cases this
  |read _ b _ _ _ _ e=>have:=hj.2.1;rw [b] at this;cases this
  |fresh _ b _ _ _ _ _ e=>have:=hj.2.1;rw [b] at this;cases this
  |chain _ _ _ _ _ hc _ _ _ e=>exact key _ hc hj.1.1
 ·obtain ⟨v,Hp, -,hp, -⟩:=W.I8 hj
  exact key _ hp.chained hj
theorem iV.Uc {i q:Nat} (hi:Ok ops C i) (hk:kindOf P (oo ops i)= .read) (ho:On fi ops S i) {L:Nat->Prop} (hLi:¬ L i) (hpre:∀ j,(pm ops i).testBit j=true->L j)
  (hcl:∀ x j,L x->x<ops.size->(pm ops x).testBit j=true->L j) (hq:q<=ops.size) (hbef:∀ x,x<q->EN P fi ops S C x->L x) (hat:q<ops.size->EN P fi ops S C q/\¬ L q):
  ∃ v v1 H1 H2,aO P sf (dC fi (S i).T) (S i).H (oo ops i)=some (.val v H1)/\(S (i+1)).T=c8 fi (S i).T (oo ops i).dst v/\aO P sf (dC fi (S i).T) (S q).H (oo ops i)=some (.val v1 H2)/\(v1=v∨ld v v1=true):=by
 cases W.step hi with
 |off a e=>unfold On at ho;rw [a] at ho;cases ho
 |pure _ b _ _ _ e=>rw [b] at hk;cases hk
 |fresh _ b _ _ _ _ _ e=>rw [b] at hk;cases hk
 |chain _ b _ _ _ _ _ _ _ e=>rw [b] at hk;cases hk
 |read _ _ v H1 he hs e=>
  have hsame:∀ {H:IH},sameAt P sf fi (S i).T H (oo ops i) v=true->∃ v1 H2,aO P sf (dC fi (S i).T) H (oo ops i)=some (.val v1 H2)/\ld v v1=true:=by
   intro H h;unfold sameAt at h;split at h
   ·rename_i v' hv
    unfold zL at hv;split at hv
    ·rename_i u H2 hu;cases hv;exact ⟨_,_,hu,h⟩
    ·cases hv
   ·cases h
  rcases Nat.lt_or_ge q i with hqi |hqi
  ·have hlt:q<ops.size:=by have:=hi.1;omega
   obtain ⟨hc,hnl⟩:=hat hlt;rcases Cj hs _ (W.bR i (by have:=hi.1;omega) q hqi hc) with x |x
   ·exact absurd (hpre q x) hnl
   ·obtain ⟨v1,H2,h1,h2⟩:=hsame x;exact ⟨v,v1,H1,H2,he,by rw [e],h1,.inr h2⟩
  ·-- the last link of the chain ahead of q, behind i
   have last:∀ k,i<=k->k<=q->(∀ x,i<=x->x<k->¬ Ch P fi ops S C x)∨∃ c,i<c/\c<k/\Ch P fi ops S C c/\∀ x,c<x->x<k->¬ Ch P fi ops S C x:=by
    intro k
    induction k with
    |zero=>intro _ _;exact .inl fun x _ hx=>by omega
    |succ k ih=>
     intro h1 h2;rcases Nat.lt_or_ge k i with h' |h'
     ·exact .inl fun x _ _=>by omega
     ·by_cases hck:Ch P fi ops S C k
      ·have hne:i≠k:=by rintro rfl;have:=hck.2.1;rw [hk] at this;cases this
       exact .inr ⟨k,by omega,by omega,hck,fun x _ _=>by omega⟩
      ·rcases ih h' (by omega) with h3 |⟨c,c1,c2,c3,c4⟩
       ·left
        intro x hx hxk;rcases Nat.lt_or_ge x k with h'' |h''
        ·exact h3 x hx h''
        ·rw [show x=k by omega];exact hck
       ·right
        refine ⟨c,c1,by omega,c3,fun x hx hxk=>?_⟩;rcases Nat.lt_or_ge x k with h'' |h''
        ·exact c4 x hx h''
        ·rw [show x=k by omega];exact hck
   rcases last q hqi (zai _) with h |⟨c,c1,c2,c3,c4⟩
   ·have hH:(S q).H=(S i).H:=W.Dr q i hqi hq h
    exact ⟨v,v,H1,H1,he,by rw [e],by rw [hH];exact he,.inl rfl⟩
   ·have hH:(S q).H=(S (c+1)).H:=W.Dr q (c+1) (by omega) hq fun x h1 h2=>c4 x (by omega) h2
    have hLc:L c:=hbef c c2 (.inl c3);have hbit:(pm ops c).testBit i=false:=by
     cases hb:(pm ops c).testBit i with
     |false=>rfl
     |true=>exact absurd (hcl c i hLc c3.1.1 hb) hLi
    have hmem:=W.reads c (by omega) i c1 hi hk ho v H1 he;cases W.step c3.1 with
    |off a e'=>have:=c3.2.2;unfold On at this;rw [a] at this;cases this
    |pure _ b _ _ _ e'=>have:=c3.2.1;rw [b] at this;cases this
    |read _ b _ _ _ _ e'=>have:=c3.2.1;rw [b] at this;cases this
    |fresh _ b _ _ _ _ _ e'=>have:=c3.2.1;rw [b] at this;cases this
    |chain _ _ v3 H3 _ _ _ _ hr e'=>
     rcases CN hr _ hmem with x |x
     ·simp only at x;rw [hbit] at x;cases x
     ·obtain ⟨v1,H2,h1,h2⟩:=hsame x
      refine ⟨v,v1,H1,H2,he,by rw [e],?_,.inr h2⟩;rw [hH,e'];exact h1
end
end Go.Iv
/- Regions that draw their order, the third part: heaps with blocks that lie apart; a new block under a kept id. -/
namespace Go.Iv
open Go
theorem VZ {a b:ByteArray} (h:bl a=bl b):a=b:=by
 cases a;cases b;simp only [bl] at h;rw [Array.toList_inj.1 h]
theorem FV {a b:Value} (h:ll a b=true):a=b:=by
 unfold ll at h;split at h
 ·simp at h;rw [h]
 ·simp at h;rw [h.1,h.2]
 ·simp at h;rw [VZ h]
 ·simp at h;rw [h]
 ·simp at h;rw [h.1.1,h.1.2,h.2]
 ·simp at h;rw [h]
 ·rfl
 ·rfl
 ·cases h
theorem pY:∀ {a b:List Value},mg a b=true->a=b:=by
 intro a
 induction a with
 |nil=>intro b h;cases b with
  |nil=>rfl
  |cons=>simp [mg] at h
 |cons x a ih=>
  intro b h;cases b with
  |nil=>simp [mg] at h
  |cons y b=>
   simp only [mg,zae] at h;rw [FV h.1,ih h.2]
theorem Q6 {a b:Value} (h:ld a b=true):a=b:=by
 unfold ld at h;split at h
 ·rw [Array.toList_inj.1 (pY h)]
 ·rw [Array.toList_inj.1 (pY h)]
 ·simp only [zae,beq_iff_eq] at h
  rw [h.1.1,Array.toList_inj.1 (pY h.1.2),Array.toList_inj.1 (pY h.2)]
 ·exact FV h
section restrict
variable {Γ1 Γ2 Γ3:Ga} {w w':World}
theorem VR.XD {Γ:Ga} {v v':Value} (h:VR Γ w v v') {b o l c:Nat} (e:v= .slice (some ⟨b,o,none⟩) l c):Γ.bj b:=by
 cases h<;>cases e<;>assumption
mutual
theorem VR.restrict (hg:∀ i,Γ1.bj i->Γ2.bj i->Γ3.bj i/\Γ3.φ i=Γ1.φ i) {v v' v'':Value} (h:VR Γ1 w v v') (k:VR Γ2 w' v v''):VR Γ3 w v v':=by
 cases h with
 |bool b=>exact .bool b
 |int kk n=>exact .int kk n
 |float kk n=>exact .float kk n
 |complex kk n m=>exact .complex kk n m
 |string s=>exact .string s
 |yR=>exact .yR
 |@ptr b o h=>cases k with |ptr h2=>obtain ⟨h3,h4⟩:=hg _ h h2;rw [show Γ1.at b o=Γ3.at b o by simp [Ga.at,h4]];exact .ptr h3
 |Dl=>exact .Dl
 |@slice b o l c a h hc hl ha=>
  have h2:Γ2.bj b:=k.XD rfl;obtain ⟨h3,h4⟩:=hg _ h h2;exact .slice h3 hc hl (ha.imp (fun x=>⟨x.1,x.2.trans (by rw [h4])⟩) fun x=>x.trans (by simp [Ga.at,h4]))
 |@dV b o l s c a h hl hr=>
  have h2:Γ2.bj b:=k.XD rfl;obtain ⟨h3,h4⟩:=hg _ h h2;exact .dV h3 hl (hr.imp (fun x=>⟨x.1,x.2.1,x.2.2.trans (by rw [h4])⟩) fun x=>⟨x.1.trans (by simp [Ga.at,h4]),x.2⟩)
 |Js=>exact .Js
 |@map r h=>cases k with |map h2=>obtain ⟨h3,h4⟩:=hg _ h h2;rw [←h4];exact .map h3
 |DX=>exact .DX
 |func hf ha hc=>
  cases k with
  |func hf2 ha2 hc2=>exact .func hf (ha.restrict hg ha2) (hc.restrict hg hc2)
  |yield=>cases hf
 |@yield l h=>
  have h2:Γ2.bj l:=by
   cases k with
   |func hf=>cases hf
   |yield h2=>exact h2
  obtain ⟨h3,h4⟩:=hg _ h h2;rw [←h4];exact .yield h3
 |nilFunc=>exact .nilFunc
 |iface t h=>cases k with |iface _ h2=>exact .iface t (h.restrict hg h2)
 |nilIface=>exact .nilIface
 |agg h=>cases k with |agg h2=>exact .agg (h.restrict hg h2)
 |tuple h=>cases k with |tuple h2=>exact .tuple (h.restrict hg h2)
 |aS v'=>exact .aS v'
theorem cB.restrict (hg:∀ i,Γ1.bj i->Γ2.bj i->Γ3.bj i/\Γ3.φ i=Γ1.φ i) {l l' l'':List Value} (h:cB Γ1 w l l') (k:cB Γ2 w' l l''):cB Γ3 w l l':=by
 cases h with
 |nil=>exact .nil
 |cons h t=>cases k with |cons h2 t2=>exact .cons (h.restrict hg h2) (t.restrict hg t2)
end
theorem gP.restrict (hg:∀ i,Γ1.bj i->Γ2.bj i->Γ3.bj i/\Γ3.φ i=Γ1.φ i) {l l':List MapEntry} (h:gP Γ1 w l l'):∀ {l'':List MapEntry},gP Γ2 w' l l''->gP Γ3 w l l':=by
 induction h with
 |nil=>intro _ _;exact .nil
 |cons hk hf hv hb _ ih=>intro l'' k;cases k with |cons hk2 _ hv2 _ t2=>exact .cons (hk.restrict hg hk2) hf (hv.restrict hg hv2) hb (ih t2)
theorem TR.restrict (hg:∀ i,Γ1.bj i->Γ2.bj i->Γ3.bj i/\Γ3.φ i=Γ1.φ i) {fi:FI} {E:En} {tm tm':Array Value} (h:TR Γ1 w fi E tm) (k:TR Γ2 w' fi E tm'):TR Γ3 w fi E tm:=
 ⟨h.size,fun t=>(h.get t).restrict hg (k.get t)⟩
theorem gz.restrict (hg:∀ i,Γ1.bj i->Γ2.bj i->Γ3.bj i/\Γ3.φ i=Γ1.φ i) {b1 b2 b3:Nat} {o:bA} (e:Γ3.φ b3=Γ1.φ b1) (hro:dO<=b3->dO<=b1) (h:gz Γ1 w b1 o) (k:gz Γ2 w' b2 o):gz Γ3 w b3 o:=by
 cases o with
 |cells cs el fz ex sh=>
  obtain ⟨cs',lo,hi,hc⟩:=h;obtain ⟨cs2,lo2,hi2,hc2⟩:=k;refine ⟨cs',lo,hi,by rw [e];exact hc.block,by rw [e];exact hc.room,fun i v hv=>?_,by rw [e];exact hc.lL,by rw [e];exact fun x=>hc.frozen (hro x),by rw [e];exact hc.LW⟩;obtain ⟨v',h1,h2⟩:=hc.cell i v hv;obtain ⟨v2, -,h3⟩:=hc2.cell i v hv;exact ⟨v',by rw [e];exact h1,h2.restrict hg h3⟩
 |map es ck=>
  obtain ⟨es',h1,h2⟩:=h;obtain ⟨es2, -,h3⟩:=k;exact ⟨es',by rw [e];exact h1,h2.restrict hg h3⟩
 |eW s pos=>unfold gz at h ⊢;rw [e];exact h
 |loop st pd fi E ps dZ body=>
  obtain ⟨fn,tm,df,h1,h2⟩:=h;obtain ⟨fn2,tm2,df2, -,h3⟩:=k;exact ⟨fn,tm,df,by rw [e];exact h1,h2.restrict hg h3⟩
 |mf x=>cases x<;>(unfold gz at h ⊢;rw [e];exact h)
end restrict
section
variable {Γ:Ga} {H:IH} {w:World}
theorem gz.lt {b:Nat} {o:bA} (ho:gz Γ w b o):(Γ.φ b).1<w.heap.size:=by
 have key:∀ x,w.heap[(Γ.φ b).1]? =some x->(Γ.φ b).1<w.heap.size:=fun x hx=>(Array.getElem?_eq_some_iff.1 hx).1
 cases o with
 |cells cs e fz ex sh=>obtain ⟨cs',lo,hi,hc⟩:=ho;exact key _ hc.block
 |map es ck=>obtain ⟨es',h1,_⟩:=ho;exact key _ h1
 |eW s pos=>exact key _ ho.1
 |loop st pd fi E ps dZ body=>obtain ⟨fn,tm,df,h1,_⟩:=ho;exact key _ h1
 |mf x=>cases x<;>exact key _ ho
theorem Rh.lay (h:Rh Γ H w) {i:Nat} {ob:bA} (hd:Γ.bj i) (ho:gz Γ w i ob) (hne:∀ j x,H.get j=some x->j≠i->(Γ.φ j).1≠(Γ.φ i).1):Rh Γ (H.put i ob) w:=by
 refine ⟨h.bj,h.ro,h.cE,fun b o hb=>?_,fun b b' o o' hro hb hb' e=>?_,fun b o hb=>?_⟩
 ·rw [IH.ah] at hb
  by_cases e1:b=i
  ·rw [e1];exact hd
  ·rw [if_neg e1] at hb;exact h.live b o hb
 ·rw [IH.ah] at hb hb'
  by_cases e1:b=i<;>by_cases e2:b'=i
  ·rw [e1,e2]
  ·rw [if_neg e2] at hb';subst e1;exact absurd e.symm (hne b' _ hb' e2)
  ·rw [if_neg e1] at hb;subst e2;exact absurd e (hne b _ hb e1)
  ·rw [if_neg e1] at hb;rw [if_neg e2] at hb';exact h.inj b b' o o' hro hb hb' e
 ·rw [IH.ah] at hb
  by_cases e1:b=i
  ·rw [if_pos e1] at hb;cases hb;rw [e1];exact ho
  ·rw [if_neg e1] at hb;exact h.obj b o hb
structure lV (n0:Nat) (Γ:Ga) (H:IH) (w:World) (low:Nat) (f:Nat) (ob:bA):Prop where
 bj:Γ.bj (n0+f)
 obj:gz Γ w (n0+f) ob
 low:low<=(Γ.φ (n0+f)).1
 ne:∀ i x,H.get i=some x->(Γ.φ i).1≠(Γ.φ (n0+f)).1
theorem cz (n0:Nat):∀ (l:List (Nat×bA)) (H:IH),(au n0 l H).n=H.n:=by
 intro l H
 induction l with
 |nil=>rfl
 |cons p l ih=>obtain ⟨i,o⟩:=p;simp only [au,IH.UU];exact ih
theorem dk (n0:Nat):∀ (l:List (Nat×bA)) {H:IH} {i:Nat} {x:bA},(au n0 l H).get i=some x->H.get i=some x∨∃ f,(f,x)∈l/\i=n0+f:=by
 intro l
 induction l with
 |nil=>intro H i x h;exact .inl h
 |cons p l ih=>
  intro H i x h;obtain ⟨f,o⟩:=p;simp only [au,IH.ah] at h;by_cases e:i=n0+f
  ·rw [if_pos e] at h;cases h;exact .inr ⟨f,List.mem_cons_self,e⟩
  ·rw [if_neg e] at h
   rcases ih h with h1 |⟨g,h1,h2⟩
   ·exact .inl h1
   ·exact .inr ⟨g,zak _ h1,h2⟩
theorem vu {n0 low:Nat} (h:Rh Γ H w):∀ (l:List (Nat×bA)),(∀ p∈l,lV n0 Γ H w low p.1 p.2)->(∀ p∈l,∀ p'∈l,p.1≠p'.1->(Γ.φ (n0+p.1)).1≠(Γ.φ (n0+p'.1)).1)->
  Rh Γ (au n0 l H) w:=by
 intro l
 induction l with
 |nil=>intro _ _;exact h
 |cons p l ih=>
  intro ha hd;obtain ⟨f,o⟩:=p;have hp:=ha (f,o) List.mem_cons_self;refine (ih (fun p hp=>ha p (zak _ hp)) fun p hp p' hp'=>hd p (zak _ hp) p' (zak _ hp')).lay hp.bj hp.obj fun j x hj hne=>?_
  rcases dk n0 l hj with h1 |⟨g,h1,rfl⟩
  ·exact hp.ne j x h1
  ·exact hd (g,x) (zak _ h1) (f,o) List.mem_cons_self (fun e=>hne (by simp only at e;rw [e]))
structure GG (n0 N:Nat) (Γ0:Ga) (H0:IH) (w0:World) (Lf:Nat->Prop) (Γ:Ga) (H:IH) (w:World):Prop where
 U1:H0.n=n0
 EZ:n0+N<=H.n
 φ:∀ i,(i<n0∨H.n<=i)->Γ.φ i=Γ0.φ i
 bj:∀ i,Γ.bj i↔(Γ0.bj i∨(∃ f,f<N/\Lf f/\i=n0+f)∨(n0+N<=i/\i<H.n))
 size:w0.heap.size<=w.heap.size
 os:w.os=w0.os
 tape:w.tape=w0.tape
 output:w.output=w0.output
 same:eN w0 w
 cI:∀ b,b<w0.heap.size->¬ DA Γ0 H0 b->w.heap[b]? =w0.heap[b]?
 o6:∀ b,b<w0.heap.size->DA Γ H b->DA Γ0 H0 b
 SI:∀ i,i<dO->∀ o,H.get i=some o->∃ o',H0.get i=some o'
variable {n0 N:Nat} {Γ0:Ga} {H0:IH} {w0:World} {Lf:Nat->Prop} {Γ1:Ga} {H1:IH} {w1:World}
theorem GG.ZT (g:GG n0 N Γ0 H0 w0 Lf Γ H w) (h0:Rh Γ0 H0 w0):Γ0.le Γ:=
 ⟨fun i hi=>(g.bj i).2 (.inl hi),fun i hi=>g.φ i (.inl (by have:=h0.bj i hi;have:=g.U1;omega))⟩
theorem mC {l:List (Nat×bA)} {b:Nat} (h:DA Γ (au n0 l H) b):DA Γ H b∨∃ p∈l,(Γ.φ (n0+p.1)).1=b:=by
 obtain ⟨i,o,hi,ho,e⟩:=h;rcases dk n0 l ho with h1 |⟨f,h1,rfl⟩
 ·exact .inl ⟨i,o,hi,h1,e⟩
 ·exact .inr ⟨_,h1,e⟩
theorem GG.go (h0:Rh Γ0 H0 w0) (g:GG n0 N Γ0 H0 w0 Lf Γ H w) (_hr:Rh Γ H w) {l:List (Nat×bA)} (ha:∀ p∈l,lV n0 Γ H w w0.heap.size p.1 p.2) (hE:Ext Γ (au n0 l H) w Γ1 H1 w1):
  GG n0 N Γ0 H0 w0 Lf Γ1 H1 w1:=by
 have hn:(au n0 l H).n=H.n:=cz n0 l H;have h1:=hE.EZ;rw [hn] at h1;have himg:∀ b,b<w0.heap.size->DA Γ (au n0 l H) b->DA Γ0 H0 b:=by
  intro b hb hi;rcases mC hi with x |⟨p,hp,e⟩
  ·exact g.o6 b hb x
  ·have:=(ha p hp).low;omega
 refine ⟨g.U1,by have:=g.EZ;omega,fun i hi=>?_,fun i=>?_,Nat.le_trans g.size hE.size,hE.os.trans g.os,hE.tape.trans g.tape,hE.output.trans g.output,g.same.trans hE.same,fun b hb hi=>?_,fun b hb hi=>?_,fun i hi o ho=>?_⟩
 ·have:=g.EZ
  rw [hE.φ i (by rw [hn];omega),g.φ i (by omega)]
 ·rw [hE.bj,hn,g.bj]
  have:=g.EZ;constructor
  ·rintro ((a |a |a) |a)
   ·exact .inl a
   ·exact .inr (.inl a)
   ·exact .inr (.inr ⟨a.1,by omega⟩)
   ·exact .inr (.inr ⟨by omega,a.2⟩)
  ·rintro (a |a |a)
   ·exact .inl (.inl a)
   ·exact .inl (.inr (.inl a))
   ·rcases Nat.lt_or_ge i H.n with x |x
    ·exact .inl (.inr (.inr ⟨a.1,x⟩))
    ·exact .inr ⟨x,a.2⟩
 ·rw [hE.cI b (Nat.lt_of_lt_of_le hb g.size) (fun x=>hi (himg b hb x)),g.cI b hb hi]
 ·exact himg b hb (hE.o6 b (Nat.lt_of_lt_of_le hb g.size) hi)
 ·obtain ⟨o1,ho1⟩:=hE.SI i hi o ho
  rcases dk n0 l ho1 with x |⟨f, -,rfl⟩
  ·exact g.SI i hi _ x
  ·have:=h0.ro;have:=g.U1;omega
theorem lV.go (h0:Rh Γ0 H0 w0) (g:GG n0 N Γ0 H0 w0 Lf Γ H w) (_hr:Rh Γ H w) {l:List (Nat×bA)} (_ha:∀ p∈l,lV n0 Γ H w w0.heap.size p.1 p.2)
  (hro:Rh Γ (au n0 l H) w) (hE:Ext Γ (au n0 l H) w Γ1 H1 w1) (_hr1:Rh Γ1 H1 w1) {f:Nat} {ob:bA} (hf:lV n0 Γ H w w0.heap.size f ob) (hd:∀ p∈l,(Γ.φ (n0+p.1)).1≠(Γ.φ (n0+f)).1):
  lV n0 Γ1 H1 w1 w0.heap.size f ob:=by
 have hle:=hE.le hro;have e:=hle.φ _ hf.bj;have hlt:=hf.obj.lt;have hni:¬ DA Γ (au n0 l H) (Γ.φ (n0+f)).1:=by
  intro x;rcases mC x with ⟨i,o,hi,ho,e1⟩ |⟨p,hp,e1⟩
  ·exact hf.ne i o ho e1
  ·exact hd p hp e1
 refine ⟨hle.bj _ hf.bj,hf.obj.mono hle hE.same hf.bj (hE.cI _ hlt hni),by rw [e];exact hf.low,fun i x hx=>?_⟩;rw [e];intro e1;rcases Nat.lt_or_ge i dO with hi |hi
 ·obtain ⟨o1,ho1⟩:=hE.SI i hi x hx
  have hdi:=hro.live i o1 ho1;rcases dk n0 l ho1 with y |⟨g', -,rfl⟩
  ·rw [hle.φ i hdi] at e1
   exact hf.ne i _ y e1
  ·have:=h0.ro;have:=g.U1;omega
 ·exact hni (hE.o6 _ hlt ⟨i,x,hi,hx,e1⟩)
def Ga.fill (Γ:Ga) (n0 N:Nat):Ga:={ φ:=Γ.φ,bj:=fun i=>Γ.bj i∨(n0<=i/\i<n0+N) }
theorem Ga.mY (Γ:Ga) (n0 N:Nat):Γ.le (Γ.fill n0 N):=⟨fun _ h=> .inl h,fun _ _=>rfl⟩
theorem Rh.fill (h:Rh Γ H w) (hn:n0+N<=H.n):Rh (Γ.fill n0 N) H w:=by
 refine ⟨?_,h.ro,fun g hg=>⟨.inl (h.cE g hg).1,(h.cE g hg).2⟩,fun b o hb=> .inl (h.live b o hb),h.inj,fun b o hb=>(h.obj b o hb).mono (Γ.mY n0 N) (.refl w) (h.live b o hb) rfl⟩;rintro b (hb |hb)
 ·exact h.bj b hb
 ·omega
theorem GG.fill (g:GG n0 N Γ0 H0 w0 Lf Γ H w):Ext Γ0 H0 w0 (Γ.fill n0 N) H w:=by
 have h1:=g.U1;have h2:=g.EZ;refine ⟨by omega,fun i hi=>g.φ i (by omega),fun i=>?_,g.size,g.os,g.tape,g.output,g.same,g.cI,g.o6,g.SI⟩;simp only [Ga.fill,g.bj];constructor
 ·rintro ((a |⟨f,a, -,rfl⟩ |a) |a)
  ·exact .inl a
  ·exact .inr ⟨by omega,by omega⟩
  ·exact .inr ⟨by omega,by omega⟩
  ·exact .inr ⟨by omega,by omega⟩
 ·rintro (a |a)
  ·exact .inl (.inl a)
  ·rcases Nat.lt_or_ge i (n0+N) with x |x
   ·exact .inr ⟨by omega,x⟩
   ·exact .inl (.inr (.inr ⟨x,by omega⟩))
theorem GG.au (g:GG n0 N Γ0 H0 w0 Lf Γ H w) (h0:Rh Γ0 H0 w0) {l:List (Nat×bA)} (ha:∀ p∈l,lV n0 Γ H w w0.heap.size p.1 p.2):GG n0 N Γ0 H0 w0 Lf Γ (au n0 l H) w:=by
 have hn:(Iv.au n0 l H).n=H.n:=cz n0 l H;refine ⟨g.U1,by rw [hn];exact g.EZ,by rw [hn];exact g.φ,by rw [hn];exact g.bj,g.size,g.os,g.tape,g.output,g.same,g.cI,fun b hb hi=>?_,fun i hi o ho=>?_⟩
 ·rcases mC hi with x |⟨p,hp,e⟩
  ·exact g.o6 b hb x
  ·have:=(ha p hp).low;omega
 ·rcases dk n0 l ho with x |⟨f, -,rfl⟩
  ·exact g.SI i hi _ x
  ·have:=h0.ro;have:=g.U1;omega
end
end Go.Iv
/- Regions that draw their order, the last part: whatever operation comes next, what is known goes on; so such a region comes to what the evaluator says. -/
namespace Go.Iv
open Go
structure wT (ops:Array Oper) (C:Nat) (L:Nat->Prop):Prop where
 ok:∀ x,L x->Ok ops C x
 cl:∀ x j,L x->(pm ops x).testBit j=true->L j
open Classical in
noncomputable def tl (fi:FI) (ops:Array Oper) (S:Nat->DS) (T0:En) (L:Nat->Prop) (t:Nat):Value:=
 if ∃ j,L j/\(oo ops j).dst=some t then fw fi (S ops.size).T t else fw fi T0 t
def pz (P:Program) (fi:FI) (ops:Array Oper) (S:Nat->DS) (C:Nat) (L:Nat->Prop) (f:Nat):Prop:=
 L f/\Fr P fi ops S C f/\∀ x,Ch P fi ops S C x->L x->(pm ops x).testBit f=false
structure Inv (P:Program) (sf:Self) (fi:FI) (ops:Array Oper) (n0:Nat) (T0:En) (S:Nat->DS) (C:Nat) (Γ0:Ga) (H0:IH) (w0:World) (D:List Deferred) (L:Nat->Prop) (Γ:Ga) (a:Act) (w:World) (q:Nat):Prop where
 Yb:q<=ops.size
 before:∀ x,x<q->EN P fi ops S C x->L x
 at_:q<ops.size->EN P fi ops S C q/\¬ L q
 rh:Rh Γ (S q).H w
 gg:GG n0 (fV P ops) Γ0 H0 w0 (fun f=>L f/\Fr P fi ops S C f) Γ (S q).H w
 len:a.tmps.size=fi.nt
 tm:∀ t,VR Γ w (tl fi ops S T0 L t) (a.tmps.getD t Go.undef)
 df:RI Γ w D a.defers
 side:∀ f,pz P fi ops S C L f->lV n0 Γ (S q).H w w0.heap.size f (qo P sf fi ops n0 S f)
 GJ:∀ f f',pz P fi ops S C L f->pz P fi ops S C L f'->f≠f'->(Γ.φ (n0+f)).1≠(Γ.φ (n0+f')).1
section
variable {P:Program} {sf:Self} {fi:FI} {ops:Array Oper} {n0:Nat} {T0:En} {Hs:IH} {S:Nat->DS} {C:Nat} {R:DR} (W:iV P sf fi ops n0 T0 Hs S C R)
variable {Γ0:Ga} {H0:IH} {w0:World} {D:List Deferred} {L:Nat->Prop} {Γ Γ1:Ga} {a:Act} {w w1:World} {q:Nat} {H1:IH}
theorem iV.KL (W:iV P sf fi ops n0 T0 Hs S C R) {i j t:Nat} (hi:i<ops.size) (hj:j<ops.size) (h1:(oo ops i).dst=some t) (h2:(oo ops j).dst=some t):i=j:=
 W.uniq i j _ _ t (gW hi) (gW hj) h1 h2
include W
theorem iV.look (hL:wT ops C L) {i t:Nat} (hi:i<ops.size) (hLi:¬ L i) (hpre:∀ j,(pm ops i).testBit j=true->L j) (ht:t∈(oo ops i).looksAt ops):fw fi (S i).T t=tl fi ops S T0 L t:=by
 have none_:∀ k,k<=ops.size->(∀ x,x<k->(oo ops x).dst≠some t)->fw fi (S k).T t=fw fi T0 t:=fun k hk h=>by
  rw [W.Ca k 0 (Nat.zero_le _) hk fun x _ hx=>h x hx,W.start]
 unfold tl;by_cases hw:∃ j,j<ops.size/\(oo ops j).dst=some t
 ·obtain ⟨j,hj,hd⟩:=hw
  rcases W.looks i j _ _ t (gW hi) (gW hj) hd ht with hb |hb
  ·have hlt:=W.JQ hi hb
   rw [if_pos ⟨j,hpre j hb,hd⟩];refine (W.Ca ops.size i (by omega) (zai _) fun x h1 h2 e=>?_).symm;have:=W.KL h2 hj e hd;omega
  ·have hlt:=W.JQ hj hb
   rw [if_neg]
   ·refine none_ i (by omega) fun x hx e=>?_
    have:=W.KL (by omega) hj e hd;omega
   ·rintro ⟨k,hk,hdk⟩
    have:=W.KL (hL.ok k hk).1 hj hdk hd;subst this;exact hLi (hL.cl _ _ hk hb)
 ·rw [if_neg]
  ·exact none_ i (by omega) fun x hx e=>hw ⟨x,by omega,e⟩
  ·rintro ⟨k,hk,hdk⟩;exact hw ⟨k,(hL.ok k hk).1,hdk⟩
theorem Inv.tmps (hL:wT ops C L) (I:Inv P sf fi ops n0 T0 S C Γ0 H0 w0 D L Γ a w q) {i:Nat} (hi:i<ops.size) (hLi:¬ L i) (hpre:∀ j,(pm ops i).testBit j=true->L j):
  (∀ t∈(oo ops i).looksAt ops,VR Γ w (fw fi (S i).T t) (a.tmps.getD t Go.undef))/\∀ x,VR Γ w (C8 fi ((oo ops i).looksAt ops) (S i).T x) (a.eval x):=by
 have key:∀ t∈(oo ops i).looksAt ops,VR Γ w (fw fi (S i).T t) (a.tmps.getD t Go.undef):=fun t ht=>by
  rw [W.look hL hi hLi hpre ht];exact I.tm t
 refine ⟨key,fun x=>?_⟩;cases x with
 |tmp t=>
  simp only [C8];split
  ·rename_i h;exact key t (by simpa using h)
  ·exact .aS _
 |const v=>
  simp only [C8,dC,Act.eval];split
  ·rename_i h;exact .jk h
  ·exact .aS _
 |global g=>
  simp only [C8,dC,Act.eval];split
  ·rename_i h
   have hg:=I.rh.cE g h;have:=VR.ptr (w:=w) (o:=0) hg.1;simpa [Ga.at,hg.2] using this
  ·exact .aS _
 |func f=>exact .func rfl .nil .nil
theorem iV.V2 {i:Nat} {v:Value} (hi:i<ops.size) (hT:(S (i+1)).T=c8 fi (S i).T (oo ops i).dst v) {t:Nat} (ht:t<fi.nt):
  tl fi ops S T0 (fun x=>L x∨x=i) t=if (oo ops i).dst=some t then v else tl fi ops S T0 L t:=by
 unfold tl;by_cases hd:(oo ops i).dst=some t
 ·rw [if_pos hd,if_pos ⟨i,.inr rfl,hd⟩,W.Ca ops.size (i+1) (by omega) (zai _),hT,hd,KI _ _ ht]
  intro x h1 h2 e;have:=W.KL h2 hi e hd;omega
 ·rw [if_neg hd]
  congr 1
  refine propext ⟨?_,?_⟩
  ·rintro ⟨j,hj |rfl,h⟩
   ·exact ⟨j,hj,h⟩
   ·exact absurd h hd
  ·rintro ⟨j,hj,h⟩;exact ⟨j,.inl hj,h⟩
omit W in
theorem WC {t:Nat} (ht:fi.nt<=t):tl fi ops S T0 L t=aS:=by
 unfold tl;split
 ·exact Cy _ ht
 ·exact Cy _ ht
omit W in
theorem He (a:Act) (d:Option Tmp) (v:Value):(a.put d v).tmps.size=a.tmps.size:=by cases d<;>simp [Act.put]
omit W in
theorem Es (a:Act) (d:Option Tmp) (v:Value):(a.put d v).defers=a.defers:=by cases d<;>rfl
theorem Inv.put (I:Inv P sf fi ops n0 T0 S C Γ0 H0 w0 D L Γ a w q) {i:Nat} {v v':Value} (hi:i<ops.size) (hT:(S (i+1)).T=c8 fi (S i).T (oo ops i).dst v)
  (hg:∀ u u',VR Γ w u u'->VR Γ1 w1 u u') (hv:VR Γ1 w1 v v'):
  ∀ t,VR Γ1 w1 (tl fi ops S T0 (fun x=>L x∨x=i) t) ((a.put (oo ops i).dst v').tmps.getD t Go.undef):=by
 intro t;rcases Nat.lt_or_ge t fi.nt with ht |ht
 ·rw [W.V2 hi hT ht]
  by_cases hd:(oo ops i).dst=some t
  ·rw [if_pos hd,hd]
   simp only [Act.put];have:t<a.tmps.size:=by rw [I.len];exact ht
   simpa [Array.getD_eq_getD_getElem?,this] using hv
  ·rw [if_neg hd]
   have e:(a.put (oo ops i).dst v').tmps.getD t Go.undef=a.tmps.getD t Go.undef:=by
    cases hdd:(oo ops i).dst with
    |none=>rfl
    |some d=>
     simp only [Act.put];have hne:d≠t:=by rintro rfl;exact hd hdd
     simp [Array.getD_eq_getD_getElem?,Array.getElem?_setIfInBounds_ne hne]
   rw [e];exact hg _ _ (I.tm t)
 ·rw [WC ht];exact .aS _
omit W in
theorem RM (hL:wT ops C L) {i:Nat} (hi:Ok ops C i) (hpre:∀ j,(pm ops i).testBit j=true->L j):wT ops C (fun x=>L x∨x=i):=
 ⟨fun x h=>h.elim (hL.ok x) (fun e=>e▸hi),fun x j h hb=>h.elim (fun h=> .inl (hL.cl x j h hb)) (fun e=> .inl (hpre j (e▸hb)))⟩
theorem Inv.go (I:Inv P sf fi ops n0 T0 S C Γ0 H0 w0 D L Γ a w q) (h0:Rh Γ0 H0 w0) {i:Nat} (hi:i<ops.size) (hnf:¬ Fr P fi ops S C i) {v v':Value} (hT:(S (i+1)).T=c8 fi (S i).T (oo ops i).dst v)
  {l:List (Nat×bA)} (hl:∀ p∈l,pz P fi ops S C L p.1/\p.2=qo P sf fi ops n0 S p.1) (habs:∀ f,pz P fi ops S C (fun x=>L x∨x=i) f->∀ p∈l,p.1≠f)
  (hE:Ext Γ (au n0 l (S q).H) w Γ1 H1 w1) (hr1:Rh Γ1 H1 w1) (hv:VR Γ1 w1 v v') {q':Nat} (hq':q'<=ops.size) (before':∀ x,x<q'->EN P fi ops S C x->L x∨x=i)
  (at':q'<ops.size->EN P fi ops S C q'/\¬ (L q'∨q'=i)) (hH:(S q').H=H1):
  Inv P sf fi ops n0 T0 S C Γ0 H0 w0 D (fun x=>L x∨x=i) Γ1 (a.put (oo ops i).dst v') w1 q':=by
 have ha:∀ p∈l,lV n0 Γ (S q).H w w0.heap.size p.1 p.2:=fun p hp=>by
  obtain ⟨h1,h2⟩:=hl p hp;rw [h2];exact I.side _ h1
 have hro:Rh Γ (au n0 l (S q).H) w:=vu I.rh l ha fun p hp p' hp' hne=>I.GJ _ _ (hl p hp).1 (hl p' hp').1 hne
 have hle:=hE.le hro;have free:∀ f,pz P fi ops S C (fun x=>L x∨x=i) f->pz P fi ops S C L f:=fun f hf=>by
  rcases hf.1 with h |rfl
  ·exact ⟨h,hf.2.1,fun x h1 h2=>hf.2.2 x h1 (.inl h2)⟩
  ·exact absurd hf.2.1 hnf
 have hgg:=I.gg.go h0 I.rh ha hE;have hLf:(fun f=>L f/\Fr P fi ops S C f)=(fun f=>(L f∨f=i)/\Fr P fi ops S C f):=by
  funext f;refine propext ⟨fun h=>⟨.inl h.1,h.2⟩,?_⟩;rintro ⟨h |rfl,h2⟩
  ·exact ⟨h,h2⟩
  ·exact absurd h2 hnf
 rw [hLf] at hgg;refine ⟨hq',before',at',by rw [hH];exact hr1,by rw [hH];exact hgg,by rw [He];exact I.len,I.put W hi hT (fun u u' h=>h.mono hle hE.same) hv,by rw [Es];exact I.df.mono hle hE.same,fun f hf=>?_,fun f f' hf hf' hne=>?_⟩
 ·rw [hH]
  exact (I.side f (free f hf)).go h0 I.gg I.rh ha hro hE hr1 fun p hp=>I.GJ _ _ (hl p hp).1 (free f hf) (habs f hf p hp)
 ·have e1:=hle.φ _ (I.side f (free f hf)).bj
  have e2:=hle.φ _ (I.side f' (free f' hf')).bj;rw [e1,e2];exact I.GJ f f' (free f hf) (free f' hf') hne
theorem Inv.lay (I:Inv P sf fi ops n0 T0 S C Γ0 H0 w0 D L Γ a w q) (h0:Rh Γ0 H0 w0) {i:Nat} (hL:wT ops C L) (hLi:¬ L i) (hf:Fr P fi ops S C i) {rr:Result Next}
  {vf:Nat->Value} (hnv:Ss vf) {ob:bA} (hob:ob=qo P sf fi ops n0 S i) (hT:(S (i+1)).T=c8 fi (S i).T (oo ops i).dst (vf (n0+i)))
  (hrun:∀ (Γ':Ga) (H':IH),Rh Γ' H' w->(∀ x,VR Γ' w (C8 fi ((oo ops i).looksAt ops) (S i).T x) (a.eval x))->Good Γ' H' w rr (.val (vf H'.n) (H'.new ob)))
  (htm:∀ x,VR Γ w (C8 fi ((oo ops i).looksAt ops) (S i).T x) (a.eval x)):
  ∃ v' w1,rr= .ok (.value v') w1/\∃ Γ2,Inv P sf fi ops n0 T0 S C Γ0 H0 w0 D (fun x=>L x∨x=i) Γ2 (a.put (oo ops i).dst v') w1 q:=by
 obtain ⟨v',w1,Γ1,hrr,hv1,hr1,hE1⟩:=hrun Γ (S q).H I.rh htm;have hi:=hf.1.1;have hir:=SU hf;have hge:=h0.ro;have hn0:=I.gg.U1;have hnle:=I.gg.EZ;have hR':Rh Γ { (S q).H with n:=(S q).H.n+1 } w:=⟨fun b hb=>Nat.lt_succ_of_lt (I.rh.bj b hb),Nat.le_succ_of_le I.rh.ro,I.rh.cE,I.rh.live,I.rh.inj,I.rh.obj⟩;obtain ⟨v2,w2,Γ2,hrr2,hv2,hr2,hE2⟩:=hrun Γ _ hR' htm;rw [hrr] at hrr2;cases hrr2;refine ⟨v',w1,hrr,?_⟩;have rh:=I.rh;have gg:=I.gg;have side:=I.side;generalize hH:(S q).H=H at*;have hle1:=hE1.le rh;have hle2:=hE2.le hR';have hdn:¬ Γ.bj H.n:=fun x=>by have:=rh.bj _ x;omega
 have hdi:¬ Γ.bj (n0+i):=by
  intro x;rcases (gg.bj _).1 x with x |⟨f, -,h1,h2⟩ |x
  ·have:=h0.bj _ x;omega
  ·have:f=i:=by omega
   subst this;exact hLi h1.1
  ·omega
 let Γ3:Ga:={ φ:=fun j=>if j=n0+i then Γ1.φ H.n else Γ.φ j,bj:=fun j=>Γ.bj j∨j=n0+i }
 have e3:Γ3.φ (n0+i)=Γ1.φ H.n:=by simp [Γ3]
 have o3:∀ j,j≠n0+i->Γ3.φ j=Γ.φ j:=fun j h=>by simp [Γ3,h]
 have both:∀ j,Γ1.bj j->Γ2.bj j->Γ3.bj j/\Γ3.φ j=Γ1.φ j:=by
  intro j h1 h2;have hd:Γ.bj j:=by
   rcases (hE1.bj j).1 h1 with x |x
   ·exact x
   ·rcases (hE2.bj j).1 h2 with y |y
    ·exact y
    ·simp only [IH.Qb] at x y;omega
  have hne:j≠n0+i:=by rintro rfl;exact hdi hd
  exact ⟨.inl hd,by rw [o3 j hne,hle1.φ j hd]⟩
 have hle3:Γ.le Γ3:=⟨fun j h=> .inl h,fun j h=>o3 j (by rintro rfl;exact hdi h)⟩;have live1:∀ b o,H.get b=some o->(H.new ob).get b=some o/\(({ H with n:=H.n+1 }:IH).new ob).get b=some o:=by
  intro b o hb;have:=rh.bj b (rh.live b o hb);refine ⟨by rw [IH.az,if_neg (by omega)];exact hb,?_⟩;rw [IH.az,if_neg (by show ¬ b=H.n+1;omega)];exact hb
 have hobj:∀ b o,H.get b=some o->gz Γ3 w1 b o:=by
  intro b o hb;have hd:=rh.live b o hb;obtain ⟨g1,g2⟩:=live1 b o hb;exact (hr1.obj b o g1).restrict both (by rw [hle3.φ b hd,hle1.φ b hd]) (fun x=>x) (hr2.obj b o g2)
 have hnew:gz Γ3 w1 (n0+i) ob:=
  (hr1.obj H.n ob (by rw [IH.az,if_pos rfl])).restrict both e3 (fun _=>rh.ro) (hr2.obj (H.n+1) ob (by rw [IH.az];exact if_pos rfl))
 have hv3:VR Γ3 w1 (vf (n0+i)) v':=by
  have hd3:Γ3.bj (n0+i):= .inr rfl;cases hnv with
  |ptr=>
   simp only [ptrTo] at hv1 ⊢;cases hv1 with |ptr h=>rw [show Γ1.at H.n 0=Γ3.at (n0+i) 0 by simp [Ga.at,e3]];exact .ptr hd3
  |slice l c=>
   generalize hx:Value.slice (some ⟨H.n,0,none⟩) l c=x at hv1;cases hv1<;>cases hx
   ·rename_i h hc ha hl;exact .slice hd3 hc hl (ha.imp (fun x=>⟨x.1,x.2.trans (by rw [e3])⟩) fun x=>x.trans (by simp [Ga.at,e3]))
   ·rename_i h hl hr;exact .dV hd3 hl (hr.imp (fun x=>⟨x.1,x.2.1,x.2.2.trans (by rw [e3])⟩) fun x=>⟨x.1.trans (by simp [Ga.at,e3]),x.2⟩)
  |map=>
   cases hv1 with |map h=>rw [←e3];exact .map hd3
 have hImg1:∀ b,DA Γ3 H b->DA Γ1 (H.new ob) b:=by
  rintro b ⟨j,o,h1,h2,h3⟩;have hd:=rh.live j o h2;exact ⟨j,o,h1,(live1 j o h2).1,by rw [hle1.φ j hd,←hle3.φ j hd];exact h3⟩
 have newlive:(H.new ob).get H.n=some ob:=by rw [IH.az,if_pos rfl]
 have notlive:∀ j o,H.get j=some o->(Γ.φ j).1≠(Γ1.φ H.n).1:=by
  intro j o hj e;have hd:=rh.live j o hj;have:=(hr1.inj H.n j ob o rh.ro newlive (live1 j o hj).1 (by rw [hle1.φ j hd];exact e.symm)).symm;have:=rh.bj j hd;omega
 have lowb:w0.heap.size<=(Γ1.φ H.n).1:=by
  rcases Nat.lt_or_ge (Γ1.φ H.n).1 w0.heap.size with x |x
  ·obtain ⟨j,o,h1,h2,h3⟩:=hE1.o6 _ (Nat.lt_of_lt_of_le x gg.size) ⟨H.n,ob,rh.ro,newlive,rfl⟩
   exact absurd h3 (notlive j o h2)
  ·exact x
 have hr3:Rh Γ3 H w1:=by
  refine ⟨?_,rh.ro,fun g hg=>⟨.inl (rh.cE g hg).1,(hle3.φ g (rh.cE g hg).1).trans (rh.cE g hg).2⟩,fun b o hb=> .inl (rh.live b o hb),fun b b' o o' hro hb hb' e=>?_,hobj⟩
  ·rintro b (hb |rfl)
   ·exact rh.bj b hb
   ·omega
  ·rw [hle3.φ b (rh.live b o hb),hle3.φ b' (rh.live b' o' hb')] at e
   exact rh.inj b b' o o' hro hb hb' e
 have isImg:∀ b,DA Γ H b↔DA Γ3 H b:=fun b=>by
  constructor
  ·rintro ⟨j,o,h1,h2,h3⟩;exact ⟨j,o,h1,h2,by rw [hle3.φ j (rh.live j o h2)];exact h3⟩
  ·rintro ⟨j,o,h1,h2,h3⟩;exact ⟨j,o,h1,h2,by rw [←hle3.φ j (rh.live j o h2)];exact h3⟩
 have old:∀ f,pz P fi ops S C (fun x=>L x∨x=i) f->f≠i->pz P fi ops S C L f:=fun f hf hne=>by
  rcases hf.1 with h |rfl
  ·exact ⟨h,hf.2.1,fun x h1 h2=>hf.2.2 x h1 (.inl h2)⟩
  ·exact absurd rfl hne
 have sideNe:∀ f,pz P fi ops S C L f->(Γ.φ (n0+f)).1≠(Γ1.φ H.n).1:=by
  intro f hf e;have hs:=side f hf;obtain ⟨j,o,h1,h2,h3⟩:=hE1.o6 (Γ.φ (n0+f)).1 hs.obj.lt ⟨H.n,ob,rh.ro,newlive,e.symm⟩;exact hs.ne j o h2 h3
 have φf:∀ f,f≠i->Γ3.φ (n0+f)=Γ.φ (n0+f):=fun f h=>o3 _ (by omega)
 have hgg:GG n0 (fV P ops) Γ0 H0 w0 (fun f=>(L f∨f=i)/\Fr P fi ops S C f) Γ3 H w1:=by
  refine ⟨hn0,hnle,fun j hj=>?_,fun j=>?_,Nat.le_trans gg.size hE1.size,hE1.os.trans gg.os,hE1.tape.trans gg.tape,hE1.output.trans gg.output,gg.same.trans hE1.same,fun b hb hni=>?_,fun b hb hbi=>gg.o6 b hb ((isImg b).2 hbi),gg.SI⟩
  ·rw [o3 j (by omega)];exact gg.φ j hj
  ·simp only [Γ3,gg.bj]
   constructor
   ·rintro ((x |⟨f,h1,h2,h3⟩ |x) |rfl)
    ·exact .inl x
    ·exact .inr (.inl ⟨f,h1,⟨.inl h2.1,h2.2⟩,h3⟩)
    ·exact .inr (.inr x)
    ·exact .inr (.inl ⟨i,hir,⟨.inr rfl,hf⟩,rfl⟩)
   ·rintro (x |⟨f,h1,⟨h2 |rfl,h4⟩,h3⟩ |x)
    ·exact .inl (.inl x)
    ·exact .inl (.inr (.inl ⟨f,h1,⟨h2,h4⟩,h3⟩))
    ·exact .inr h3
    ·exact .inl (.inr (.inr x))
  ·rw [hE1.cI b (Nat.lt_of_lt_of_le hb gg.size) (fun x=>hni (gg.o6 b hb x)),gg.cI b hb hni]
 refine ⟨Γ3,I.Yb,fun x hx hc=> .inl (I.before x hx hc),fun hq=>⟨(I.at_ hq).1,?_⟩,by rw [hH];exact hr3,by rw [hH];exact hgg,by rw [He];exact I.len,
  I.put W hi hT (fun u u' h=>h.mono hle3 hE1.same) hv3,by rw [Es];exact I.df.mono hle3 hE1.same,fun f hf'=>?_,fun f f' hf1 hf2 hne=>?_⟩
 ·rintro (h |rfl)
  ·exact (I.at_ hq).2 h
  ·rcases (I.at_ hq).1 with h |⟨rfl, -⟩
   ·have:=h.2.1;rw [hf.2.1] at this;cases this
   ·exact gA hf.1
 ·rw [hH]
  by_cases hfi:f=i
  ·subst hfi
   rw [←hob];exact ⟨.inr rfl,hnew,by rw [e3];exact lowb,fun j x hj=>by rw [e3,hle3.φ j (rh.live j x hj)];exact notlive j x hj⟩
  ·have hs:=side f (old f hf' hfi)
   refine ⟨.inl hs.bj,hs.obj.mono hle3 hE1.same hs.bj ?_,by rw [φf f hfi];exact hs.low,fun j x hj=>by rw [φf f hfi,hle3.φ j (rh.live j x hj)];exact hs.ne j x hj⟩;refine hE1.cI _ hs.obj.lt ?_;rintro ⟨j,o, -,h2,h3⟩;exact hs.ne j o h2 h3
 ·by_cases h1:f=i<;>by_cases h2:f'=i
  ·omega
  ·subst h1;rw [e3,φf f' h2];exact fun e=>sideNe f' (old f' hf2 h2) e.symm
  ·subst h2;rw [e3,φf f h1];exact sideNe f (old f hf1 h1)
  ·rw [φf f h1,φf f' h2];exact I.GJ f f' (old f hf1 h1) (old f' hf2 h2) hne
end
end Go.Iv
/- A region that draws its order comes to what the evaluator says. -/
namespace Go.Iv
open Go
section
variable {P:Program} {sf:Self} {fi:FI} {ops:Array Oper} {n0:Nat} {T0:En} {Hs:IH} {S:Nat->DS} {C:Nat} {R:DR} (W:iV P sf fi ops n0 T0 Hs S C R)
variable {Γ0:Ga} {H0:IH} {w0:World} {D:List Deferred} {L:Nat->Prop} {Γ Γ1:Ga} {a:Act} {w w1:World} {q:Nat} {H1:IH}
include W
omit W in
theorem Vn (k:Nat) (hk:k<=ops.size):∃ q,k<=q/\q<=ops.size/\(∀ x,k<=x->x<q->¬ EN P fi ops S C x)/\(q<ops.size->EN P fi ops S C q):=by
 have key:∀ d k,ops.size - k=d->k<=ops.size->∃ q,k<=q/\q<=ops.size/\(∀ x,k<=x->x<q->¬ EN P fi ops S C x)/\(q<ops.size->EN P fi ops S C q):=by
  intro d
  induction d with
  |zero=>intro k h1 h2;exact ⟨k,zai _,h2,fun x _ _=>by omega,fun _=>by omega⟩
  |succ d ih=>
   intro k h1 h2;by_cases hc:EN P fi ops S C k
   ·exact ⟨k,zai _,h2,fun x _ _=>by omega,fun _=>hc⟩
   ·obtain ⟨q,h3,h4,h5,h6⟩:=ih (k+1) (by omega) (by omega)
    refine ⟨q,by omega,h4,fun x hx hxq=>?_,h6⟩;rcases Nat.lt_or_ge k x with h' |h'
    ·exact h5 x (by omega) hxq
    ·rw [show x=k by omega];exact hc
 exact key _ k rfl hk
theorem Inv.X5 (_hL:wT ops C L) (I:Inv P sf fi ops n0 T0 S C Γ0 H0 w0 D L Γ a w q) {i:Nat} (hi:EN P fi ops S C i) (his:i<ops.size) (hLi:¬ L i) (hpre:∀ j,(pm ops i).testBit j=true->L j):q=i:=by
 rcases Nat.lt_trichotomy q i with h |h |h
 ·have hq:=I.at_ (by omega)
  exact absurd (hpre q (W.so hq.1 hi h)) hq.2
 ·exact h
 ·exact absurd (I.before i h hi) hLi
theorem Inv.taken (I:Inv P sf fi ops n0 T0 S C Γ0 H0 w0 D L Γ a w q) (hL:wT ops C L) (hq:q<ops.size) (hpre:∀ j,(pm ops q).testBit j=true->L j):
  (∀ p∈(S q).bt.filter (fun x=>(pm ops q).testBit x.1),(pm ops q).testBit p.1=true/\pz P fi ops S C L p.1/\p.2=qo P sf fi ops n0 S p.1):=by
 intro p hp;obtain ⟨f,ob⟩:=p;simp only [List.mem_filter] at hp;obtain ⟨h1,h2⟩:=hp;obtain ⟨g1,g2,g3,g4⟩:=(W.bt q (by omega) f ob).1 h1;refine ⟨h2,⟨hpre f h2,g2,fun x hx hLx=>?_⟩,g3⟩;rcases Nat.lt_or_ge x q with h |h
 ·exact g4 x h hx
 ·exfalso
  rcases Nat.lt_or_ge q x with h' |h'
  ·exact (I.at_ hq).2 (hL.cl x q hLx (W.so (I.at_ hq).1 (.inl hx) h'))
  ·rw [show x=q by omega] at hLx;exact (I.at_ hq).2 hLx
omit W in
theorem Inv.apart (I:Inv P sf fi ops n0 T0 S C Γ0 H0 w0 D L Γ a w q) {l:List (Nat×bA)} (hl:∀ p∈l,pz P fi ops S C L p.1/\p.2=qo P sf fi ops n0 S p.1):
  (∀ p∈l,lV n0 Γ (S q).H w w0.heap.size p.1 p.2)/\Rh Γ (au n0 l (S q).H) w:=by
 have ha:∀ p∈l,lV n0 Γ (S q).H w w0.heap.size p.1 p.2:=fun p hp=>by
  obtain ⟨h1,h2⟩:=hl p hp;rw [h2];exact I.side _ h1
 exact ⟨ha,vu I.rh l ha fun p hp p' hp' hne=>I.GJ _ _ (hl p hp).1 (hl p' hp').1 hne⟩
omit W in
theorem XC (I:GG n0 (fV P ops) Γ0 H0 w0 (fun f=>L f/\Fr P fi ops S C f) Γ H1 w) (h0:Rh Γ0 H0 w0) {ro:Option Nat} (hro:pw Γ0 ro):FO Γ ro=FO Γ0 ro:=Ba (I.ZT h0) hro
theorem iV.one (Sd:Sound P sf) (hng:jE P=true) (h0:Rh Γ0 H0 w0) {ro:Option Nat} (hro:pw Γ0 ro) (hL:wT ops C L) (I:Inv P sf fi ops n0 T0 S C Γ0 H0 w0 D L Γ a w q) {i:Nat} (hi:i<ops.size) (hLi:¬ L i)
  (hpre:∀ j,(pm ops i).testBit j=true->L j) {K:Act->World->Prop} {Q:Exit->Act->World->Prop}
  (hK:Ok ops C i->∀ Γ1 a1 w1 q1,Inv P sf fi ops n0 T0 S C Γ0 H0 w0 D (fun x=>L x∨x=i) Γ1 a1 w1 q1->K a1 w1)
  (hQ:∀ v Hp,R= .panic v Hp->∀ Γ1 w1 v',VR Γ1 w1 v v'->Rh Γ1 Hp w1->GG n0 (fV P ops) Γ0 H0 w0 (fun f=>L f/\Fr P fi ops S C f) Γ1 Hp w1->(∀ u u',VR Γ w u u'->VR Γ1 w1 u u')->RI Γ1 w1 D a.defers->
   Q (.panic [{ v:=v',recovered:=false }]) a w1):
  wpOpIn (FO Γ0 ro) 0 P ops Q i K a w:=by
 have hF:=XC I.gg h0 hro;obtain ⟨hlk,htm⟩:=I.tmps W hL hi hLi hpre;have hev:∀ H,aO P sf (C8 fi ((oo ops i).looksAt ops) (S i).T) H (oo ops i)=aO P sf (dC fi (S i).T) H (oo ops i):=fun H=>MF
 have hwant:∀ b,bG fi ops (S i).T (oo ops i)=some b->Region.wanted (oo ops i) (yielded ops a.tmps)=b:=fun b hb=>
  Ah (fun g b' hg t ht=>hlk t (List.mem_append_right _ (by simp [hg,ht]))) hb
 unfold wpOpIn;rw [gW hi];simp only
 have run:∀ {l:List (Nat×bA)} {res:ag} {K':Act->World->Prop},(∀ p∈l,pz P fi ops S C L p.1/\p.2=qo P sf fi ops n0 S p.1)->aO P sf (dC fi (S i).T) (au n0 l (S q).H) (oo ops i)=some res->(∀ d H,res≠ .defer d H)->
   Xy Γ (au n0 l (S q).H) w a (oo ops i) K' Q res->(oo ops i).wpIn (FO Γ0 ro) 0 P a w K' Q:=by
  intro l res K' hl he hnd hk;rw [←hF];exact mq Sd hng (I.apart hl).2 htm (by rw [hev];exact he) (fun d H e=>absurd e (hnd d H)) hk
 have hcase:Ok ops C i∨(i=C/\C<ops.size):=by
  rcases W.cases i hi with h |h |⟨h1,h2, -⟩
  ·exact .inl h
  ·exact .inr h
  ·exact absurd (hL.ok _ (hpre C h2)) gA
 rcases hcase with hok |⟨rfl,hC⟩
 ·-- the same link comes next
  have stay:∀ {v v':Value} {Γ1:Ga} {w1:World},(S (i+1)).T=c8 fi (S i).T (oo ops i).dst v->¬ EN P fi ops S C i->¬ Fr P fi ops S C i->VR Γ1 w1 v v'->Rh Γ1 (S q).H w1->Ext Γ (S q).H w Γ1 (S q).H w1->K (a.put (oo ops i).dst v') w1:=by
   intro v v' Γ1 w1 hT hnc hnf hv hr1 hE;refine hK hok Γ1 _ w1 q (I.go W h0 hi hnf hT (l:= []) (fun p hp=>by cases hp) (fun f _ p hp=>by cases hp) hE hr1 hv I.Yb (fun x hx hc=> .inl (I.before x hx hc)) (fun hq=>⟨(I.at_ hq).1,?_⟩) rfl);rintro (h |rfl)
   ·exact (I.at_ hq).2 h
   ·exact hnc (I.at_ hq).1
  have notC:¬ (i=C/\C<ops.size):=by rintro ⟨rfl, -⟩;exact gA hok
  cases W.step hok with
  |off h e=>
   rw [hwant _ h,if_neg (by simp)];have hoff:¬ On fi ops S i:=by unfold On;rw [h];intro x;cases x
   exact ⟨fun f _=>yw _ f,stay (by rw [e]) (fun hc=>hc.elim (fun x=>hoff x.2.2) notC) (fun hf=>hoff hf.2.2) .undef I.rh (.refl _ _ _)⟩
  |pure h k v H1 he e=>
   rw [hwant _ h,if_pos rfl];obtain ⟨v0,hv0,hany⟩:=oT k _ _ he;cases hv0;exact run (l:= []) (fun p hp=>by cases hp) (hany _) (fun d H x=>by cases x) fun Γ1 w1 v' hv hr1 hE=>
    stay (by rw [e]) (fun hc=>hc.elim (fun x=>by have:=x.2.1;rw [k] at this;cases this) notC) (fun hf=>by have:=hf.2.1;rw [k] at this;cases this) hv hr1 hE
  |read h k v0 H2 he0 hs e=>
   rw [hwant _ h,if_pos rfl];obtain ⟨v,v1,H3,H4,he,hT,he2,hsame⟩:=W.Uc hok k h hLi hpre (fun x j h _=>hL.cl x j h) I.Yb I.before I.at_;have hvv:v1=v:=hsame.elim id fun x=>(Q6 x).symm
   have hkeep:H4=(S q).H:=AA k _ _ _ he2;subst hkeep;subst hvv;exact run (l:= []) (fun p hp=>by cases hp) he2 (fun d H x=>by cases x) fun Γ1 w1 v' hv hr1 hE=>
    stay hT (fun hc=>hc.elim (fun x=>by have:=x.2.1;rw [k] at this;cases this) notC) (fun hf=>by have:=hf.2.1;rw [k] at this;cases this) hv hr1 hE
  |fresh h k v H2 ob he hb e=>
   rw [hwant _ h,if_pos rfl];obtain ⟨vf,ob',hnv,hall⟩:=NU k _ _ _ he;have hfr:Fr P fi ops S C i:=⟨hok,k,h⟩;have heq:=hall { (S i).H with n:=n0+i };simp only at heq he;rw [he] at heq;simp only [Option.some.injEq,ag.val.injEq] at heq;obtain ⟨rfl,rfl⟩:=heq;have hob:ob'=qo P sf fi ops n0 S i:=by
    unfold qo;rw [he];simp only [IH.az];rfl
   obtain ⟨hpl,hnd⟩:=zl (o:=oo ops i) (P:=P) (by rw [k];intro x;cases x)
   obtain ⟨v',w1,hrr,Γ2,I2⟩:=I.lay W h0 hL hLi hfr hnv hob (by rw [e]) (rr:=(execOp a.eval (oo ops i)).run P w)
    (fun Γ' H' hr' ht'=>mT hr' ht' hpl (by rw [hev];exact hall H')) htm
   refine ⟨fun f _=>yw _ f,?_⟩;rw [wL (.inl hnd),hrr];exact hK hok Γ2 _ w1 q I2
  |chain h k v H2 res hc hres he hr e=>
   rw [hwant _ h,if_pos rfl];have hch:EN P fi ops S C i:= .inl ⟨hok,k,h⟩;have hqi:q=i:=I.X5 W hL hch hi hLi hpre;subst hqi;have htk:=I.taken W hL hi hpre;obtain ⟨q',g1,g2,g3,g4⟩:=Vn (P:=P) (fi:=fi) (S:=S) (C:=C) (q+1) hi;have hH:(S q').H=H2:=by
    rw [W.Dr q' (q+1) g1 g2 fun x h1 h2 h3=>g3 x h1 h2 (.inl h3),e]
   have fin:∀ {v':Value} {Γ1:Ga} {w1:World},VR Γ1 w1 v v'->Rh Γ1 H2 w1->Ext Γ (au n0 ((S q).bt.filter fun x=>(pm ops q).testBit x.1) (S q).H) w Γ1 H2 w1->K (a.put (oo ops q).dst v') w1:=by
    intro v' Γ1 w1 hv hr1 hE;refine hK hok Γ1 _ w1 q' (I.go W h0 hi (fun hf=>by have:=hf.2.1;rw [k] at this;cases this) (by rw [e]) (fun p hp=>(htk p hp).2) (fun f hf p hp e1=>?_) hE hr1 hv g2 (fun x hx hcx=>?_) (fun hq=>⟨g4 hq,?_⟩) hH)
    ·have:=hf.2.2 q ⟨hok,k,h⟩ (.inr rfl)
     rw [←e1,(htk p hp).1] at this;cases this
    ·rcases Nat.lt_trichotomy x q with h' |h' |h'
     ·exact .inl (I.before x h' hcx)
     ·exact .inr h'
     ·exact absurd hcx (g3 x (by omega) hx)
    ·rintro (h' |h')
     ·exact hLi (hL.cl q' q h' (W.so hch (g4 hq) (by omega)))
     ·omega
   rcases hres with rfl |⟨rfl,rfl⟩
   ·exact run (fun p hp=>(htk p hp).2) he (fun d H x=>by cases x) fun Γ1 w1 v' hv hr1 hE=>fin hv hr1 hE
   ·exact run (fun p hp=>(htk p hp).2) he (fun d H x=>by cases x) fun Γ1 w1 hr1 hE=>fin .undef hr1 hE
 ·obtain ⟨v,Hp,hR,hp, -⟩:=W.I8 hC
  rw [hwant _ hp.wanted,if_pos rfl];have hqi:q=i:=I.X5 W hL (.inr ⟨rfl,hC⟩) hi hLi hpre;subst hqi;have htk:=I.taken W hL hi hpre;refine run (fun p hp=>(htk p hp).2) hp.ev (fun d H x=>by cases x) fun Γ1 w1 v' hv hr1 hE=>?_
  obtain ⟨ha,hro'⟩:=I.apart (fun p hp=>(htk p hp).2);have hle:=hE.le hro';exact hQ v Hp hR Γ1 w1 v' hv hr1 (I.gg.go h0 I.rh ha hE) (fun u u' x=>x.mono hle hE.same) (I.df.mono hle hE.same)
theorem iV.any (Sd:Sound P sf) (hng:jE P=true) (h0:Rh Γ0 H0 w0) {ro:Option Nat} (hro:pw Γ0 ro) {Q:Exit->Act->World->Prop}
  (hN:∀ L Γ a w q,wT ops C L->Inv P sf fi ops n0 T0 S C Γ0 H0 w0 D L Γ a w q->(∀ i,i<ops.size->L i)->Q .normal a w)
  (hQ:∀ L Γ a w q,wT ops C L->Inv P sf fi ops n0 T0 S C Γ0 H0 w0 D L Γ a w q->∀ v Hp,R= .panic v Hp->∀ Γ1 w1 v',VR Γ1 w1 v v'->Rh Γ1 Hp w1->GG n0 (fV P ops) Γ0 H0 w0 (fun f=>L f/\Fr P fi ops S C f) Γ1 Hp w1->
   (∀ u u',VR Γ w u u'->VR Γ1 w1 u u')->RI Γ1 w1 D a.defers->Q (.panic [{ v:=v',recovered:=false }]) a w1):
  ∀ (fuel:Nat) (listed:Array Bool) (L:Nat->Prop) (Γ:Ga) (a:Act) (w:World) (q:Nat),listed.size=ops.size->listed.toList.countP (fun b=> !b)<=fuel->(∀ i,i<ops.size->(listed.getD i false=true↔L i))->wT ops C L->
   Inv P sf fi ops n0 T0 S C Γ0 H0 w0 D L Γ a w q->wpAnyIn (FO Γ0 ro) 0 P .any ops Q fuel listed a w:=by
 have getD_eq:∀ (listed:Array Bool) (i:Nat),listed.size=ops.size->i<ops.size->listed.getD i true=listed.getD i false:=by
  intro listed i h1 h2;simp [h1,h2]
 have all:∀ (listed:Array Bool) (L:Nat->Prop),listed.size=ops.size->(∀ i,i<ops.size->(listed.getD i false=true↔L i))->Region.ready .any ops listed= []->∀ i,i<ops.size->L i:=by
  intro listed L hsz hlist hr i
  induction i using Nat.strongRecOn with
  |_ i ih=>
   intro hi;rw [←hlist i hi];cases hb:listed.getD i false with
   |true=>rfl
   |false=>
    exfalso
    have:i∈Region.ready .any ops listed:=by
     rw [mem_ready];refine ⟨by rw [getD_eq listed i hsz hi];exact hb,_,gW hi,fun e he hbe=>?_⟩;have hlt:=W.back i _ (gW hi) e he hbe;exact (hlist e.on (by omega)).2 (ih e.on hlt (by omega))
    rw [hr] at this;cases this
 intro fuel
 induction fuel with
 |zero=>
  intro listed L Γ a w q hsz hcnt hlist hL I;have hr:Region.ready .any ops listed= []:=by
   cases hr:Region.ready .any ops listed with
   |nil=>rfl
   |cons i rs=>
    exfalso
    have hmem:i∈Region.ready .any ops listed:=by rw [hr];exact List.mem_cons_self
    obtain ⟨h1,o,h2, -⟩:=mem_ready.1 hmem;have hi:i<listed.size:=by rw [hsz];exact (Array.getElem?_eq_some_iff.1 h2).1
    have:0<listed.toList.countP (fun b=> !b):=List.countP_pos_iff.2 ⟨listed[i],by simp,by simpa [hi] using h1⟩;omega
  exact ⟨hr,hN L Γ a w q hL I (all listed L hsz hlist hr)⟩
 |succ fuel ih=>
  intro listed L Γ a w q hsz hcnt hlist hL I;refine ⟨fun hr=>hN L Γ a w q hL I (all listed L hsz hlist hr),fun i hi=>?_⟩;obtain ⟨h1,o,h2,h3⟩:=mem_ready.1 hi;have his:i<ops.size:=(Array.getElem?_eq_some_iff.1 h2).1;have hfalse:listed.getD i false=false:=by rw [←getD_eq listed i hsz his];exact h1
  have hLi:¬ L i:=fun h=>by rw [(hlist i his).2 h] at hfalse;cases hfalse
  have hpre:∀ j,(pm ops i).testBit j=true->L j:=by
   intro j hj;obtain ⟨e,he,hbe,h⟩:=(Pm W.back h2).1 hj;have hlt:=W.back i o h2 e he hbe;have hLe:L e.on:=(hlist e.on (by omega)).1 (h3 e he hbe);rcases h with rfl |h
   ·exact hLe
   ·exact hL.cl _ _ hLe h
  refine W.one Sd hng h0 hro hL I his hLi hpre (fun hok Γ1 a1 w1 q1 I1=>?_) (fun v Hp hR Γ1 w1 v'=>hQ L Γ a w q hL I v Hp hR Γ1 w1 v');refine ih _ _ Γ1 a1 w1 q1 (by simpa using hsz) ?_ (fun j hj=>?_) (RM hL hok hpre) I1
  ·have hlt:i<listed.toList.length:=by simpa [hsz] using his
   have hval:listed.toList[i]=false:=by
    have:i<listed.size:=by rw [hsz];exact his
    simpa [this] using hfalse
   rw [Array.toList_setIfInBounds,List.countP_set hlt];simp only [hval];generalize hcn:listed.toList.countP (fun b=> !b)=cn at*;have:0<cn:=by rw [←hcn];exact List.countP_pos_iff.2 ⟨_,List.getElem_mem hlt,by simp [hval]⟩
   simp;omega
  ·by_cases hij:i=j
   ·subst hij
    simp [hsz,his]
   ·rw [getD_set_ne false hij,hlist j hj]
    constructor
    ·exact .inl
    ·rintro (h |h)
     ·exact h
     ·exact absurd h.symm hij
end
theorem zh {fi:FI}:∀ (l:List Oper) (T:En) (t:Nat),fw fi (gf fi l T) t=aS∨(fw fi (gf fi l T) t=fw fi T t/\∀ o∈l,o.dst≠some t):=by
 intro l
 induction l with
 |nil=>intro T t;exact .inr ⟨rfl,fun o ho=>by cases ho⟩
 |cons o l ih=>
  intro T t;simp only [gf];rcases ih (c8 fi T o.dst aS) t with h1 |⟨h1,h2⟩
  ·exact .inl h1
  ·by_cases hd:o.dst=some t
   ·left
    rw [h1,hd];rcases Nat.lt_or_ge t fi.nt with ht |ht
    ·exact KI _ _ ht
    ·exact Cy _ ht
   ·rw [h1,KJ _ hd]
    refine .inr ⟨rfl,fun x hx=>?_⟩;rcases List.mem_cons.1 hx with e |hx
    ·rw [e];exact hd
    ·exact h2 x hx
variable {P:Program}
theorem Ln (hm:P.follows .mixedOrders=true) (hng:jE P=true):∀ sf,Sound P sf->lK P sf:=by
 intro sf Sd fi ro id ops T H D r Γ w a h hro hst;refine wpIn_region_any hm ?_;have hw:({ w with drawn:=w.drawn+1 }:World)=w.drew:=rfl;rw [hw];obtain ⟨hRd,hEd⟩:=hst.rh.drew;have hstd:=hst.ext hRd hEd;unfold lI at h;simp only at h;split at h
 ·rename_i hstat
  obtain ⟨hback,huniq,hlooks⟩:=zH hstat;generalize hev:aU P sf fi ops H.n ops.toList 0 (cX ops.toList []) ⟨T,{ H with n:=H.n+fV P ops },[],[],[]⟩ none=R at h;have hne:R≠ .fail:=by rintro rfl;cases h
  obtain ⟨S,C,hS0,hTr⟩:=Rc hev hne;have W:iV P sf fi ops H.n T { H with n:=H.n+fV P ops } S C R:=⟨hTr,hS0,hback,huniq,hlooks⟩;have key:wpAnyIn (FO Γ ro) 0 P .any ops (lz Γ H w fi r) ops.size (Array.replicate ops.size false) a w.drew:=by
   obtain ⟨q, -,q2,q3,q4⟩:=Vn (P:=P) (fi:=fi) (ops:=ops) (S:=S) (C:=C) 0 (Nat.zero_le _);have hSq:(S q).H={ H with n:=H.n+fV P ops }:=by
    rw [W.Dr q 0 (Nat.zero_le _) q2 fun x h1 h2 h3=>q3 x h1 h2 (.inl h3),hS0]
   have hR0:Rh Γ { H with n:=H.n+fV P ops } w.drew:=⟨fun b hb=>by have:=hRd.bj b hb;show b<H.n+fV P ops;omega,by have:=hRd.ro;show dO<=H.n+fV P ops;omega,hRd.cE,hRd.live,hRd.inj,hRd.obj⟩;refine W.any (D:=D) (H0:=H) (w0:=w.drew) (Γ0:=Γ) Sd hng hRd hro ?_ ?_ ops.size _ (fun _=>False) Γ a w.drew q (by simp) (by have:=List.countP_le_length (p:=fun b=> !b) (l:=(Array.replicate ops.size false).toList);simpa using this) (fun i hi=>by simp [hi]) ⟨fun x h=>h.elim,fun x j h _=>h.elim⟩ ?_
   ·-- the end
    intro L Γ1 a1 w1 q1 hL I hall;have hC:C=ops.size:=by
     rcases Nat.lt_or_ge C ops.size with h' |h'
     ·exact absurd (hL.ok C (hall C h')) gA
     ·have:=hTr.ZN;omega
    have hq:q1=ops.size:=by
     rcases Nat.lt_or_ge q1 ops.size with h' |h'
     ·exact absurd (hall q1 h') (I.at_ h').2
     ·have:=I.Yb;omega
    subst hq;rw [hTr.fin hC] at h;cases h;have hl:∀ p∈(S ops.size).bt,pz P fi ops S C L p.1/\p.2=qo P sf fi ops H.n S p.1:=by
     rintro ⟨f,ob⟩ hp;obtain ⟨g1,g2,g3,g4⟩:=(W.bt ops.size (zai _) f ob).1 hp;exact ⟨⟨hall f g1,g2,fun x hx _=>g4 x hx.1.1 hx⟩,g3⟩
    obtain ⟨ha,hrh⟩:=I.apart hl;have hgg:=I.gg.au hRd ha;refine lz.after hEd ⟨Γ1.fill H.n (fV P ops),.normal,⟨hrh.fill hgg.EZ,?_,I.df.mono (Γ1.mY _ _) (.refl _)⟩,hgg.fill⟩;refine ⟨I.len,fun t=>?_⟩;have htl:tl fi ops S T L t=fw fi (S ops.size).T t:=by
     unfold tl;split
     ·rfl
     ·rename_i hno
      rw [W.Ca ops.size 0 (Nat.zero_le _) (zai _) (fun x _ hx e=>hno ⟨x,hall x hx,e⟩),hS0]
    have:=I.tm t;rw [htl] at this;exact this.mono (Γ1.mY _ _) (.refl _)
   ·-- a panic
    intro L Γ1 a1 w1 q1 hL I v Hp hR Γ2 w2 v' hv hr2 hgg hvr hdf;subst hR;cases h;refine lz.after hEd ⟨Γ2.fill H.n (fV P ops),.panic (hv.mono (Γ2.mY _ _) (.refl _)),⟨hr2.fill hgg.EZ,?_,hdf.mono (Γ2.mY _ _) (.refl _)⟩,hgg.fill⟩;refine ⟨I.len,fun t=>?_⟩;rcases zh (fi:=fi) ops.toList T t with h1 |⟨h1,h2⟩
    ·simp only [h1];exact .aS _
    ·have htl:tl fi ops S T L t=fw fi T t:=by
      unfold tl;rw [if_neg];rintro ⟨j,hj,hd⟩;refine h2 (oo ops j) ?_ hd;have:=gW (hL.ok j hj).1;simpa using Array.mem_of_getElem? this
     have:=I.tm t;rw [htl] at this;simp only [h1];exact (hvr _ _ this).mono (Γ2.mY _ _) (.refl _)
   ·refine ⟨q2,fun x hx hc=>absurd hc (q3 x (Nat.zero_le _) hx),fun hq=>⟨q4 hq,fun x=>x⟩,by rw [hSq];exact hR0,?_,?_,?_,hstd.defs,fun f hf=>hf.1.elim,fun f f' hf=>hf.1.elim⟩
    ·rw [hSq]
     refine ⟨rfl,zai _,fun _ _=>rfl,fun i=>⟨.inl,?_⟩,zai _,rfl,rfl,rfl,.refl _,fun _ _ _=>rfl,fun _ _ x=>x,fun _ _ o x=>⟨o,x⟩⟩;rintro (x |⟨f, -,⟨x, -⟩, -⟩ |x)
     ·exact x
     ·exact x.elim
     ·exact absurd x.2 (by show ¬ i<H.n+fV P ops;omega)
    ·exact hst.tmps.size
    ·intro t
     unfold tl;rw [if_neg (by rintro ⟨j,hj, -⟩;exact hj)];exact hstd.tmps.get t
  exact key
 ·cases h
end Go.Iv
