/- Regions that draw their order, the first part: what an operation looks at; what goes ahead of what; the evaluator's own walk taken to pieces. -/
import Derived.Test.YteknbnkjelmfaaaGreatDoorIvStart
import Derived.Orders
set_option linter.unusedSimpArgs false
set_option linter.unusedVariables false
namespace Go.Iv
open Go
variable {P:Program} {sf:Self} {ops:Array Oper}
theorem Fp {ρ ρ':Operand->Value} {H:IH} (o:Oper) (h:∀ x∈o.op.operands,ρ x=ρ' x):aG P sf ρ H o=aG P sf ρ' H o:=by
 obtain ⟨dst,op,type,pos,after,guard⟩:=o
 have pairs:∀ ps:Array (Nat×Operand),(∀ x∈ps.map (·.2),ρ x=ρ' x)->
   (ps.toList.map fun p=>(p.1,ρ p.2))=(ps.toList.map fun p=>(p.1,ρ' p.2)):=fun ps hp=>
  List.map_congr_left fun p hm=>by
   grind
 have arr:∀ l:Array Operand,(∀ x∈l,ρ x=ρ' x)->l.toList.map ρ=l.toList.map ρ':=fun l hl=>
  List.map_congr_left fun x hx=>hl x (by simpa using hx)
 have opt:∀ l:Option Operand,(∀ x∈l.toArray,ρ x=ρ' x)->l.map ρ=l.map ρ':=fun l hl=>by
  cases l with
  |none=>rfl
  |some x=>grind
 cases op<;>simp only [Op.operands] at h<;>simp only [aG]
 case build t ps=>rw [pairs ps fun x hx=>h x (by simpa using hx)]
 case buildSlice t n ps=>rw [pairs ps fun x hx=>h x (by simpa using hx)]
 case makeFunc fn first captured=>grind
 case makeMap t r=>rw [opt r h]
 case slice t x lo hi mx=>
  grind
 case call c=>
  obtain ⟨callee,args,ats⟩:=c;have ha:=arr args fun x hx=>h x (by simp [Call.operands,hx])
  unfold dt;cases callee with
  |builtin b=>simp only [ha]
  |value f=>have hf:=h f (by simp [Call.operands]);grind
  |invoke r m=>rfl
 case defer c=>
  obtain ⟨callee,args,ats⟩:=c;have ha:=arr args fun x hx=>h x (by simp [Call.operands,hx])
  cases callee with
  |builtin b=>rfl
  |value f=>have hf:=h f (by simp [Call.operands]);grind
  |invoke r m=>rfl
 case next it b=>grind
 all_goals grind
variable {fi:FI}
def Az (fi:FI) (l:List Tmp) (T:En):Operand->Value
 | .tmp t=>if l.contains t then ft fi T t else aO
 |x=>eQ fi T x
theorem I9 {T:En} {H:IH} {o:Oper}:aG P sf (Az fi (o.looksAt ops) T) H o=aG P sf (eQ fi T) H o:=by
 refine Fp o fun x hx=>?_
 cases x with
 |tmp t=>
  have:t∈o.looksAt ops:=List.mem_append_left _ (List.mem_filterMap.2 ⟨.tmp t,by simpa using hx,rfl⟩);simp [Az,this,eQ]
 |const v=>rfl
 |global g=>rfl
 |func f=>rfl
def uq (A:List Nat) (o:Oper):Nat:=o.after.toList.foldl (fun s e=>if Region.binds .any e then s |||2^e.on |||A.getD e.on 0 else s) 0
theorem oS:∀ (l:List Oper) (acc:List Nat),∃ r,di l acc=acc++r/\r.length=l.length/\∀ k o,l[k]? =some o->r[k]? =some (uq (acc++r.take k) o):=by
 intro l
 induction l with
 |nil=>intro acc;exact ⟨[],by simp [di],rfl,fun k o h=>by simp at h⟩
 |cons o l ih=>
  intro acc;obtain ⟨r,h1,h2,h3⟩:=ih (acc++ [uq acc o]);refine ⟨uq acc o::r,?_,by simp [h2],?_⟩
  .simp only [di]
   have:di l (acc++ [uq acc o])=acc++uq acc o::r:=by rw [h1];simp
   exact this
  .intro k x hk
   cases k with
   |zero=>grind
   |succ k=>
    grind
theorem Jn (A:List Nat) (j:Nat):∀ (l:List Edge) (s:Nat),
  (l.foldl (fun s e=>if Region.binds .any e then s |||2^e.on |||A.getD e.on 0 else s) s).testBit j=true↔
   (s.testBit j=true\/∃ e∈l,Region.binds .any e=true/\(j=e.on\/(A.getD e.on 0).testBit j=true)):=by
 intro l
 induction l with
 |nil=>intro s;simp
 |cons e l ih=>
  intro s;simp only [List.foldl_cons];rw [ih];cases hb:Region.binds .any e with
  |false=>simp [hb]
  |true=>
   simp only [if_true,Nat.testBit_or,Bool.or_eq_true,Nat.testBit_two_pow,decide_eq_true_eq,List.mem_cons];constructor
   .rintro (((h |h) |h) |h)
    .exact .inl h
    .exact .inr ⟨e,.inl rfl,hb,.inl h.symm⟩
    .exact .inr ⟨e,.inl rfl,hb,.inr h⟩
    .obtain ⟨e',h1,h2⟩:=h;exact .inr ⟨e',.inr h1,h2⟩
   grind
def pm (ops:Array Oper) (i:Nat):Nat:=(di ops.toList []).getD i 0
theorem RX:(di ops.toList []).length=ops.size:=by
 obtain ⟨r,h1,h2, -⟩:=oS ops.toList []
 grind
theorem N1 {i:Nat} (hi:i<ops.size):(di ops.toList [])[i]? =some (pm ops i):=by
 have:i<(di ops.toList []).length:=by rw [RX];exact hi
 simp [pm,List.getD_eq_getElem?_getD,this]
def QI (ops:Array Oper):Prop:=∀ i o,ops[i]? =some o->∀ e∈o.after,Region.binds .any e=true->e.on<i
theorem Lv (hb:QI ops) {i j:Nat} {o:Oper} (ho:ops[i]? =some o):
  (pm ops i).testBit j=true↔∃ e∈o.after,Region.binds .any e=true/\(j=e.on\/(pm ops e.on).testBit j=true):=by
 obtain ⟨r,h1,h2,h3⟩:=oS ops.toList [];have hk:=h3 i o (by simpa using ho);have e1:pm ops i=uq (r.take i) o:=by
  simp only [pm,h1,List.nil_append,List.getD_eq_getElem?_getD,hk,Option.getD_some]
 rw [e1];unfold uq;rw [Jn];simp only [Nat.zero_testBit,Bool.false_eq_true,false_or,Array.mem_toList_iff];have e2:∀ e∈o.after,Region.binds .any e=true->(r.take i).getD e.on 0=pm ops e.on:=by
  intro e he hbe;have hlt:=hb i o ho e he hbe;simp only [pm,h1,List.nil_append,List.getD_eq_getElem?_getD];rw [List.getElem?_take_of_lt hlt]
 grind
theorem TF (hb:QI ops):∀ (i:Nat) {j:Nat},i<ops.size->(pm ops i).testBit j=true->j<i:=by
 intro i
 induction i using Nat.strongRecOn with
 |_ i ih=>
  intro j hi h;obtain ⟨e,h1,h2,h3⟩:=(Lv hb (Array.getElem?_eq_getElem hi)).1 h;have hlt:=hb i _ (Array.getElem?_eq_getElem hi) e h1 h2
  grind
theorem wK (h:pW ops (di ops.toList [])=true):
  QI ops/\(∀ (i j:Nat) (oi oj:Oper) (t:Tmp),ops[i]? =some oi->ops[j]? =some oj->oi.dst=some t->oj.dst=some t->i=j)/\
  (∀ (i j:Nat) (oi oj:Oper) (t:Tmp),ops[i]? =some oi->ops[j]? =some oj->oj.dst=some t->t∈oi.looksAt ops->(pm ops i).testBit j=true\/(pm ops j).testBit i=true):=by
 unfold pW at h;rw [List.all_eq_true] at h
 have key:∀ (i:Nat) (oi:Oper),ops[i]? =some oi->(oi.after.toList.all (fun e=> !Region.binds .any e ||decide (e.on<i))=true)/\
   ∀ j oj t,ops[j]? =some oj->oj.dst=some t->(i=j\/oi.dst≠some t)/\((pm ops i).testBit j=true\/(pm ops j).testBit i=true\/t∉oi.looksAt ops):=by
  intro i oi hi;have hlt:i<ops.size:=(Array.getElem?_eq_some_iff.1 hi).1;have h1:=h i (List.mem_range.2 hlt);rw [hi,N1 hlt] at h1;simp only [zae] at h1;refine ⟨h1.1,fun j oj t hj hd=>?_⟩;have hjlt:j<ops.size:=(Array.getElem?_eq_some_iff.1 hj).1;have h2:=(List.all_eq_true.1 h1.2) j (List.mem_range.2 hjlt);rw [hj] at h2;simp only [hd,zae,Bool.or_eq_true,beq_iff_eq,bne_iff_ne,Bool.not_eq_true'] at h2;obtain ⟨h3,h4⟩:=h2;refine ⟨h3.imp Eq.symm id,?_⟩;rcases h4 with (h4 |h4) |h4
  .exact .inl h4
  .exact .inr (.inl h4)
  .exact .inr (.inr (by simpa using h4))
 refine ⟨?_,?_,?_⟩
 .intro i o hi e he hb
  have:=(List.all_eq_true.1 (key i o hi).1) e (by simpa using he);simpa [hb] using this
 .intro i j oi oj t hi hj hdi hdj
  exact ((key i oi hi).2 j oj t hj hdj).1.resolve_right (fun x=>x hdi)
 grind
inductive rT (P:Program) (sf:Self) (fi:FI) (ops:Array Oper) (n0 i:Nat) (o:Oper) (m:Nat) (s s':DS):Prop
 |off (h:cg fi ops s.T o=some false) (e:s'={ s with T:=dT fi s.T o.dst undef })
 |pure (h:cg fi ops s.T o=some true) (k:kindOf P o= .pure) (v:Value) (H1:IH) (he:aG P sf (eQ fi s.T) s.H o=some (.val v H1)) (e:s'={ s with T:=dT fi s.T o.dst v })
 |read (h:cg fi ops s.T o=some true) (k:kindOf P o= .read) (v:Value) (H1:IH) (he:aG P sf (eQ fi s.T) s.H o=some (.val v H1)) (hs:gU P sf fi s.T o v m s.cw=true)
   (e:s'={ s with T:=dT fi s.T o.dst v,reads:=⟨i,o,s.T,v⟩::s.reads })
 |fresh (h:cg fi ops s.T o=some true) (k:kindOf P o= .fresh) (v:Value) (H1:IH) (ob:bN) (he:aG P sf (eQ fi s.T) { s.H with n:=n0+i } o=some (.val v H1)) (hb:H1.get (n0+i)=some ob)
   (e:s'={ s with T:=dT fi s.T o.dst v,bq:=(i,ob)::s.bq })
 |chain (h:cg fi ops s.T o=some true) (k:kindOf P o= .chain) (v:Value) (H1:IH) (res:az) (hc:chained m s.cw=true) (hres:res= .val v H1\/(res= .skip H1/\v=undef))
   (he:aG P sf (eQ fi s.T) (aq n0 (s.bq.filter fun x=>m.testBit x.1) s.H) o=some res) (hr:jb P sf fi H1 m s.reads=true)
   (e:s'=⟨dT fi s.T o.dst v,H1,s.bq.filter fun x=> !m.testBit x.1,(i,s.H)::s.cw,s.reads⟩)
theorem nk {n0 i m:Nat} {o:Oper} {s s':DS} (h:fB P sf fi ops n0 i o m s= .done s'):rT P sf fi ops n0 i o m s s':=by
 unfold fB at h;split at h
 .rename_i hw
  split at h
  .rename_i hk
   split at h
   .rename_i v H1 he;cases h;exact .pure hw hk v H1 he rfl
   .cases h
  .rename_i hk
   split at h
   .rename_i v H1 he
    split at h
    .rename_i hs;cases h;exact .read hw hk v H1 he hs rfl
    .cases h
   .cases h
  .rename_i hk
   split at h
   .rename_i v H1 he
    split at h
    .rename_i ob hb;cases h;exact .fresh hw hk v H1 ob he hb rfl
    .cases h
   .cases h
  .rename_i hk
   split at h
   .rename_i hc
    split at h
    .rename_i v H1 he
     split at h
     .rename_i hr;cases h;exact .chain hw hk v H1 _ hc (.inl rfl) he hr rfl
     .cases h
    .rename_i H1 he
     split at h
     .rename_i hr;cases h;exact .chain hw hk undef H1 _ hc (.inr ⟨rfl,rfl⟩) he hr rfl
     .cases h
    .cases h
    .cases h
   .cases h
 .rename_i hw;cases h;exact .off hw rfl
 .cases h
structure Pg (P:Program) (sf:Self) (fi:FI) (ops:Array Oper) (n0:Nat) (o:Oper) (m:Nat) (s:DS) (v:Value) (H1:IH):Prop where
 wanted:cg fi ops s.T o=some true
 kind:kindOf P o= .chain
 chained:chained m s.cw=true
 ev:aG P sf (eQ fi s.T) (aq n0 (s.bq.filter fun x=>m.testBit x.1) s.H) o=some (.panic v H1)
theorem ur {n0 i m:Nat} {o:Oper} {s:DS} {v:Value} {H1:IH} (h:fB P sf fi ops n0 i o m s= .panic v H1):Pg P sf fi ops n0 o m s v H1:=by
 unfold fB at h;split at h
 .rename_i hw
  split at h
  .grind
  .grind
  .grind
  .rename_i hk
   split at h
   .rename_i hc
    split at h
    .grind
    .grind
    .rename_i he;cases h;exact ⟨hw,hk,hc,he⟩
    .cases h
   .cases h
 .cases h
 .cases h
theorem zR {n0 c:Nat} {v:Value} {Hp:IH}:∀ (l:List Oper) (i:Nat) (ms:List Nat) (s:DS) (R:DR),aS P sf fi ops n0 l i ms s (some (c,v,Hp))=R->R≠ .fail->
  ∃ S:Nat->DS,S i=s/\R= .panic v Hp/\∀ j o m,l[j]? =some o->ms[j]? =some m->
   (m.testBit c=true->S (i+j+1)=S (i+j))/\(m.testBit c=false->rT P sf fi ops n0 (i+j) o m (S (i+j)) (S (i+j+1))):=by
 intro l
 induction l with
 |nil=>intro i ms s R h hn;unfold aS at h;exact ⟨fun _=>s,rfl,h.symm,fun j o m hj=>by simp at hj⟩
 |cons o l ih=>
  intro i ms s R h hn;cases ms with
  |nil=>unfold aS at h;grind
  |cons m ms=>
   unfold aS at h
   have build:∀ (s1:DS),aS P sf fi ops n0 l (i+1) ms s1 (some (c,v,Hp))=R->
     ((m.testBit c=true->s1=s)/\(m.testBit c=false->rT P sf fi ops n0 i o m s s1))->
     ∃ S:Nat->DS,S i=s/\R= .panic v Hp/\∀ j o' m',(o::l)[j]? =some o'->(m::ms)[j]? =some m'->
      (m'.testBit c=true->S (i+j+1)=S (i+j))/\(m'.testBit c=false->rT P sf fi ops n0 (i+j) o' m' (S (i+j)) (S (i+j+1))):=by
    intro s1 h1 hst;obtain ⟨S,hS,hR,hstep⟩:=ih (i+1) ms s1 R h1 hn;refine ⟨fun k=>if k=i then s else S k,by simp,hR,?_⟩;intro j o' m' ho hm;cases j with
    |zero=>
     grind
    |succ j=>
     grind
   split at h
   .rename_i hb;exact build s h ⟨fun _=>rfl,fun x=>by grind⟩
   .rename_i hb
    split at h
    .rename_i s1 hd;exact build s1 h ⟨fun x=>absurd x hb,fun _=>nk hd⟩
    grind
structure Trace (P:Program) (sf:Self) (fi:FI) (ops:Array Oper) (n0:Nat) (S:Nat->DS) (C:Nat) (R:DR):Prop where
 Vd:C<=ops.size
 step:∀ i o,ops[i]? =some o->(i<C\/(C<i/\(pm ops i).testBit C=false))->rT P sf fi ops n0 i o (pm ops i) (S i) (S (i+1))
 skip:∀ i o,ops[i]? =some o->C<i->(pm ops i).testBit C=true->S (i+1)=S i
 Ka:∀ o,ops[C]? =some o->∃ v Hp,R= .panic v Hp/\Pg P sf fi ops n0 o (pm ops C) (S C) v Hp/\S (C+1)={ S C with cw:=(C,(S C).H)::(S C).cw }
 fin:C=ops.size->R= .done (S ops.size)
theorem Bn {n0:Nat}:∀ (l:List Oper) (i:Nat) (ms:List Nat) (s:DS) (R:DR),aS P sf fi ops n0 l i ms s none=R->R≠ .fail->
  ∃ (S:Nat->DS) (C:Nat),S i=s/\i<=C/\C<=i+l.length/\(C=i+l.length->R= .done (S (i+l.length)))/\
   ∀ j o m,l[j]? =some o->ms[j]? =some m->
   (i+j<C->rT P sf fi ops n0 (i+j) o m (S (i+j)) (S (i+j+1)))/\
   (i+j=C->∃ v Hp,R= .panic v Hp/\Pg P sf fi ops n0 o m (S (i+j)) v Hp/\S (i+j+1)={ S (i+j) with cw:=(i+j,(S (i+j)).H)::(S (i+j)).cw })/\
   (C<i+j->(m.testBit C=true->S (i+j+1)=S (i+j))/\(m.testBit C=false->rT P sf fi ops n0 (i+j) o m (S (i+j)) (S (i+j+1)))):=by
 intro l
 induction l with
 |nil=>intro i ms s R h hn;unfold aS at h;exact ⟨fun _=>s,i,rfl,zal _,by simp,fun _=>h.symm,fun j o m hj=>by simp at hj⟩
 |cons o l ih=>
  intro i ms s R h hn;cases ms with
  |nil=>unfold aS at h;grind
  |cons m ms=>
   unfold aS at h;split at h
   .rename_i s1 hd
    obtain ⟨S,C,hS,hC,hC2,hR,hstep⟩:=ih (i+1) ms s1 R h hn;refine ⟨fun k=>if k=i then s else S k,C,by simp,by omega,by simp;omega,fun e=>?_,?_⟩
    .simp only [zad] at e ⊢
     simp only [if_neg (show ¬ (i+(l.length+1)=i) by omega)];rw [show i+(l.length+1)=i+1+l.length by omega];exact hR (by omega)
    intro j o' m' ho hm;cases j with
    |zero=>
     simp at ho hm;subst ho;subst hm;refine ⟨fun _=>by simpa [hS] using nk hd,fun e=>by omega,fun e=>by omega⟩
    |succ j=>
     simp at ho hm;have:=hstep j o' m' ho hm;have e1:i+1+j=i+(j+1):=by omega
     rw [e1] at this;simp only [if_neg (show ¬ (i+(j+1)+1=i) by omega),if_neg (show ¬ (i+(j+1)=i) by omega)];exact this
   .rename_i v Hp hd
    obtain ⟨S,hS,hR,hstep⟩:=zR l (i+1) ms _ R h hn;refine ⟨fun k=>if k=i then s else S k,i,by simp,zal _,by simp,fun e=>by simp at e,?_⟩;intro j o' m' ho hm;cases j with
    |zero=>
     simp at ho hm;subst ho;subst hm;refine ⟨fun e=>by omega,fun _=>⟨v,Hp,hR,by simpa using ur hd,by simp [hS]⟩,fun e=>by omega⟩
    |succ j=>
     simp at ho hm;have:=hstep j o' m' ho hm;have e1:i+1+j=i+(j+1):=by omega
     rw [e1] at this;simp only [if_neg (show ¬ (i+(j+1)+1=i) by omega),if_neg (show ¬ (i+(j+1)=i) by omega)];exact ⟨fun e=>by omega,fun e=>by omega,fun _=>this⟩
   grind
theorem LK {n0:Nat} {s:DS} {R:DR} (h:aS P sf fi ops n0 ops.toList 0 (di ops.toList []) s none=R) (hn:R≠ .fail):
  ∃ S C,S 0=s/\Trace P sf fi ops n0 S C R:=by
 obtain ⟨S,C,h1, -,h3,h4,h5⟩:=Bn _ _ _ _ _ h hn;simp only [Nat.zero_add,Array.length_toList] at h3 h4 h5;have get:∀ i o,ops[i]? =some o->ops.toList[i]? =some o/\(di ops.toList [])[i]? =some (pm ops i):=fun i o ho=>
  ⟨by simpa using ho,N1 (Array.getElem?_eq_some_iff.1 ho).1⟩
 refine ⟨S,C,h1,h3,?_,?_,?_,h4⟩
 .intro i o ho hc
  obtain ⟨g1,g2⟩:=get i o ho;obtain ⟨p1, -,p3⟩:=h5 i o _ g1 g2;rcases hc with hc |⟨hc,hb⟩
  .exact p1 hc
  .exact (p3 hc).2 hb
 .intro i o ho hc hb
  obtain ⟨g1,g2⟩:=get i o ho;exact ((h5 i o _ g1 g2).2.2 hc).1 hb
 grind
end Go.Iv
/- Regions that draw their order, the second part: what the evaluator's own walk has at hand at each operation. -/
namespace Go.Iv
open Go
structure iq (P:Program) (sf:Self) (fi:FI) (ops:Array Oper) (n0:Nat) (T0:En) (H0:IH) (S:Nat->DS) (C:Nat) (R:DR):Prop where
 tr:Trace P sf fi ops n0 S C R
 start:S 0=⟨T0,H0,[],[],[]⟩
 back:QI ops
 uniq:∀ (i j:Nat) (oi oj:Oper) (t:Tmp),ops[i]? =some oi->ops[j]? =some oj->oi.dst=some t->oj.dst=some t->i=j
 looks:∀ (i j:Nat) (oi oj:Oper) (t:Tmp),ops[i]? =some oi->ops[j]? =some oj->oj.dst=some t->t∈oi.looksAt ops->(pm ops i).testBit j=true\/(pm ops j).testBit i=true
def oo (ops:Array Oper) (i:Nat):Oper:=ops.getD i default
theorem gO {ops:Array Oper} {i:Nat} (h:i<ops.size):ops[i]? =some (oo ops i):=by simp [oo,h]
def Ok (ops:Array Oper) (C i:Nat):Prop:=i<ops.size/\(i<C\/(C<i/\(pm ops i).testBit C=false))
def On (fi:FI) (ops:Array Oper) (S:Nat->DS) (i:Nat):Prop:=cg fi ops (S i).T (oo ops i)=some true
def Ch (P:Program) (fi:FI) (ops:Array Oper) (S:Nat->DS) (C i:Nat):Prop:=Ok ops C i/\kindOf P (oo ops i)= .chain/\On fi ops S i
def CI (P:Program) (fi:FI) (ops:Array Oper) (S:Nat->DS) (C i:Nat):Prop:=Ch P fi ops S C i\/(i=C/\C<ops.size)
def Fr (P:Program) (fi:FI) (ops:Array Oper) (S:Nat->DS) (C i:Nat):Prop:=Ok ops C i/\kindOf P (oo ops i)= .fresh/\On fi ops S i
noncomputable def qe (P:Program) (sf:Self) (fi:FI) (ops:Array Oper) (n0:Nat) (S:Nat->DS) (f:Nat):bN:=
 match aG P sf (eQ fi (S f).T) { (S f).H with n:=n0+f } (oo ops f) with
 |some (.val _ H1)=>(H1.get (n0+f)).getD (.mg true)
 |_=> .mg true
theorem Gj {fi:FI} {T:En} {d:Option Tmp} {t:Nat} (v:Value) (h:d≠some t):ft fi (dT fi T d v) t=ft fi T t:=by
 cases d with
 |none=>rfl
 |some d=>simp only [dT,o5];grind
theorem GY {fi:FI} (T:En) {t:Nat} (v:Value) (h:t<fi.nt):ft fi (dT fi T (some t) v) t=v:=by
 simp only [dT,o5];simp [h]
theorem za {fi:FI} (T:En) {t:Nat} (h:fi.nt<=t):ft fi T t=aO:=by
 unfold ft cls;rw [Nat.ble_eq_true_of_le h];rfl
theorem zy {m:Nat}:∀ {l:List (Nat×IH)},chained m l=true->∀ p∈l,m.testBit p.1=true:=by
 intro l
 induction l with
 |nil=>grind
 |cons x l ih=>
  intro h p hp;obtain ⟨c,Hc⟩:=x;simp only [chained,zae] at h
  grind
theorem zH {P:Program} {sf:Self} {fi:FI} {T:En} {o:Oper} {v:Value} {m:Nat}:∀ {l:List (Nat×IH)},gU P sf fi T o v m l=true->∀ p∈l,m.testBit p.1=true\/sameAt P sf fi T p.2 o v=true:=by
 intro l
 induction l with
 |nil=>grind
 |cons x l ih=>
  intro h p hp;obtain ⟨c,Hc⟩:=x;simp only [gU,zae,Bool.or_eq_true] at h
  grind
theorem yG {P:Program} {sf:Self} {fi:FI} {H:IH} {m:Nat}:∀ {l:List Rd},jb P sf fi H m l=true->∀ r∈l,m.testBit r.i=true\/sameAt P sf fi r.T H r.o r.v=true:=by
 intro l
 induction l with
 |nil=>grind
 |cons x l ih=>
  intro h p hp;simp only [jb,zae,Bool.or_eq_true] at h
  grind
theorem gh {ops:Array Oper} {C:Nat}:¬ Ok ops C C:=by rintro ⟨-,h |⟨h, -⟩⟩<;>omega
theorem PD {P:Program} {fi:FI} {ops:Array Oper} {S:Nat->DS} {C i:Nat} (h:Fr P fi ops S C i):i<iR P ops:=by
 have hi:=h.1.1;unfold iR;rw [if_pos]
 .exact hi
 .rw [List.any_eq_true]
  refine ⟨oo ops i,?_,by simpa using h.2.1⟩;have:=gO hi
  grind
section
variable {P:Program} {sf:Self} {fi:FI} {ops:Array Oper} {n0:Nat} {T0:En} {H0:IH} {S:Nat->DS} {C:Nat} {R:DR} (W:iq P sf fi ops n0 T0 H0 S C R)
include W
theorem iq.step {i:Nat} (h:Ok ops C i):rT P sf fi ops n0 i (oo ops i) (pm ops i) (S i) (S (i+1)):=W.tr.step i _ (gO h.1) h.2
theorem iq.Ka (h:C<ops.size):∃ v Hp,R= .panic v Hp/\Pg P sf fi ops n0 (oo ops C) (pm ops C) (S C) v Hp/\S (C+1)={ S C with cw:=(C,(S C).H)::(S C).cw }:=W.tr.Ka _ (gO h)
theorem iq.cases (i:Nat) (hi:i<ops.size):Ok ops C i\/(i=C/\C<ops.size)\/(C<i/\(pm ops i).testBit C=true/\S (i+1)=S i):=by
 rcases Nat.lt_trichotomy i C with h |h |h
 .exact .inl ⟨hi,.inl h⟩
 .omega
 .cases hb:(pm ops i).testBit C with
  |false=>exact .inl ⟨hi,.inr ⟨h,hb⟩⟩
  |true=>exact .inr (.inr ⟨h,rfl,W.tr.skip i _ (gO hi) h hb⟩)
theorem iq.Rz (i:Nat) (hi:i<ops.size):(S (i+1)).T=(S i).T\/(Ok ops C i/\∃ v,(S (i+1)).T=dT fi (S i).T (oo ops i).dst v):=by
 rcases W.cases i hi with h |⟨rfl,h⟩ |⟨-, -,h⟩
 .cases W.step h with
  |off _ e=>exact .inr ⟨h,_,by rw [e]⟩
  |pure _ _ v _ _ e=>exact .inr ⟨h,v,by rw [e]⟩
  |read _ _ v _ _ _ e=>exact .inr ⟨h,v,by rw [e]⟩
  |fresh _ _ v _ _ _ _ e=>exact .inr ⟨h,v,by rw [e]⟩
  |chain _ _ v _ _ _ _ _ _ e=>exact .inr ⟨h,v,by rw [e]⟩
 .obtain ⟨v,Hp, -, -,e⟩:=W.Ka h;exact .inl (by rw [e])
 grind
theorem iq.Ah {t:Nat}:∀ (k j:Nat),j<=k->k<=ops.size->(∀ x,j<=x->x<k->(oo ops x).dst≠some t)->ft fi (S k).T t=ft fi (S j).T t:=by
 intro k
 induction k with
 |zero=>grind
 |succ k ih=>
  intro j hj hk h;rcases Nat.lt_or_ge k j with hjk |hjk
  .grind
  .rw [←ih j hjk (by omega) fun x h1 h2=>h x h1 (by omega)]
   rcases W.Rz k (by omega) with e |⟨-,v,e⟩
   .rw [e]
   .rw [e];exact Gj v (h k hjk (by omega))
theorem iq.SA (i:Nat) (hi:i<ops.size) (h:¬ Ch P fi ops S C i):(S (i+1)).H=(S i).H:=by
 rcases W.cases i hi with hk |⟨rfl,hk⟩ |⟨-, -,hk⟩
 .cases W.step hk with
  |off _ e=>rw [e]
  |pure _ _ v _ _ e=>rw [e]
  |read _ _ v _ _ _ e=>rw [e]
  |fresh _ _ v _ _ _ _ e=>rw [e]
  |chain a b _ _ _ _ _ _ _ e=>exact absurd ⟨hk,b,a⟩ h
 .obtain ⟨v,Hp, -, -,e⟩:=W.Ka hk;rw [e]
 .rw [hk]
theorem iq.zY:∀ (k j:Nat),j<=k->k<=ops.size->(∀ x,j<=x->x<k->¬ Ch P fi ops S C x)->(S k).H=(S j).H:=by
 intro k
 induction k with
 |zero=>grind
 |succ k ih=>
  intro j hj hk h;rcases Nat.lt_or_ge k j with hjk |hjk
  .grind
  .rw [←ih j hjk (by omega) fun x h1 h2=>h x h1 (by omega)]
   exact W.SA k (by omega) (h k hjk (by omega))
theorem iq.cw:∀ k,k<=ops.size->∀ i,i<k->CI P fi ops S C i->(i,(S i).H)∈(S k).cw:=by
 intro k
 induction k with
 |zero=>omega
 |succ k ih=>
  intro hk i hi hc;have old:i<k->(i,(S i).H)∈(S k).cw:=fun h=>ih (by omega) i h hc
  rcases W.cases k (by omega) with hok |⟨rfl,hok⟩ |⟨h1,h2,hok⟩
  .have ne:¬ kindOf P (oo ops k)= .chain->i<k:=by
    intro h;rcases Nat.lt_or_ge i k with h' |h'
    .exact h'
    .have:i=k:=by omega
     subst this;rcases hc with hc |⟨rfl,_⟩
     .exact absurd hc.2.1 h
     .exact absurd hok gh
   cases W.step hok with
   |off a e=>
    rw [e];rcases Nat.lt_or_ge i k with h' |h'
    .exact old h'
    .have:i=k:=by omega
     subst this;rcases hc with hc |⟨rfl,_⟩
     .have:=hc.2.2;unfold On at this;grind
     .exact absurd hok gh
   |pure _ b v _ _ e=>grind
   |read _ b v _ _ _ e=>grind
   |fresh _ b v _ _ _ _ e=>grind
   |chain a b _ _ _ _ _ _ _ e=>
    grind
  .obtain ⟨v,Hp, -, -,e⟩:=W.Ka hok
   grind
  .rw [hok]
   rcases Nat.lt_or_ge i k with h' |h'
   .exact old h'
   .have:i=k:=by omega
    subst this;rcases hc with hc |⟨rfl,_⟩
    .rcases hc.1.2 with x |⟨-,x⟩
     .omega
     grind
    .omega
theorem iq.reads:∀ k,k<=ops.size->∀ i,i<k->Ok ops C i->kindOf P (oo ops i)= .read->On fi ops S i->∀ v H1,aG P sf (eQ fi (S i).T) (S i).H (oo ops i)=some (.val v H1)->(⟨i,oo ops i,(S i).T,v⟩:Rd)∈(S k).reads:=by
 intro k
 induction k with
 |zero=>omega
 |succ k ih=>
  intro hk i hi hoi hki hon v H1 hev;have old:i<k->(⟨i,oo ops i,(S i).T,v⟩:Rd)∈(S k).reads:=fun h=>ih (by omega) i h hoi hki hon v H1 hev
  rcases W.cases k (by omega) with hok |⟨rfl,hok⟩ |⟨h1,h2,hok⟩
  .have ne:kindOf P (oo ops k)≠ .read->i<k:=by
    intro h;rcases Nat.lt_or_ge i k with h' |h'
    .exact h'
    .grind
   cases W.step hok with
   |off a e=>
    rw [e];rcases Nat.lt_or_ge i k with h' |h'
    .exact old h'
    .have:i=k:=by omega
     subst this;unfold On at hon;grind
   |pure _ b _ _ _ e=>grind
   |read _ b v1 H2 he _ e=>
    grind
   |fresh _ b _ _ _ _ _ e=>grind
   |chain _ b _ _ _ _ _ _ _ e=>grind
  .obtain ⟨v1,Hp, -, -,e⟩:=W.Ka hok
   rw [e];rcases Nat.lt_or_ge i k with h' |h'
   .exact old h'
   .have:i=k:=by omega
    subst this;exact absurd hoi gh
  .rw [hok]
   rcases Nat.lt_or_ge i k with h' |h'
   .exact old h'
   .have:i=k:=by omega
    subst this;rcases hoi.2 with x |⟨-,x⟩
    .omega
    grind
theorem iq.Fj {i j:Nat} (hi:i<ops.size) (h:(pm ops i).testBit j=true):j<i:=TF W.back i hi h
theorem iq.bq:∀ k,k<=ops.size->∀ f ob,(f,ob)∈(S k).bq↔(f<k/\Fr P fi ops S C f/\ob=qe P sf fi ops n0 S f/\∀ x,x<k->Ch P fi ops S C x->(pm ops x).testBit f=false):=by
 intro k
 induction k with
 |zero=>intro _ f ob;rw [W.start];simp
 |succ k ih=>
  intro hk f ob;have hik:=ih (by omega) f ob
  have same:¬ Fr P fi ops S C k->¬ Ch P fi ops S C k->((f<k+1/\Fr P fi ops S C f/\ob=qe P sf fi ops n0 S f/\∀ x,x<k+1->Ch P fi ops S C x->(pm ops x).testBit f=false)↔
    (f<k/\Fr P fi ops S C f/\ob=qe P sf fi ops n0 S f/\∀ x,x<k->Ch P fi ops S C x->(pm ops x).testBit f=false)):=by
   intro h1 h2;constructor
   .grind
   .grind
  have notOk:¬ Ok ops C k->¬ Fr P fi ops S C k/\¬ Ch P fi ops S C k:=fun h=>⟨fun x=>h x.1,fun x=>h x.1⟩
  rcases W.cases k (by omega) with hok |⟨rfl,hok⟩ |⟨h1,h2,hok⟩
  .cases W.step hok with
   |off a e=>
    rw [e,same (fun x=>?_) (fun x=>?_)];exact hik
    .have:=x.2.2;unfold On at this;grind
    .have:=x.2.2;unfold On at this;grind
   |pure _ b _ _ _ e=>rw [e,same (fun x=>by have:=x.2.1;grind) (fun x=>by have:=x.2.1;grind)];exact hik
   |read _ b _ _ _ _ e=>rw [e,same (fun x=>by have:=x.2.1;grind) (fun x=>by have:=x.2.1;grind)];exact hik
   |fresh a b v H1 ob1 he hb e=>
    rw [e];have hob:ob1=qe P sf fi ops n0 S k:=by unfold qe;rw [he];simp only;rw [hb];rfl
    simp only [List.mem_cons,Prod.mk.injEq];rw [hik];constructor
    .rintro (⟨rfl,rfl⟩ |⟨h1,h2,h3,h4⟩)
     .refine ⟨by omega,⟨hok,b,a⟩,hob,fun x hx hcx=>?_⟩
      cases hbit:(pm ops x).testBit f with
      |false=>rfl
      |true=>have:=W.Fj hcx.1.1 hbit;omega
     .refine ⟨by omega,h2,h3,fun x hx hcx=>?_⟩
      rcases Nat.lt_or_ge x k with h' |h'
      .exact h4 x h' hcx
      .have:x=k:=by omega
       subst this;have:=hcx.2.1;rw [b] at this;cases this
    grind
   |chain a b v H1 res hc hres he hr e=>
    rw [e];simp only [List.mem_filter,Bool.not_eq_true'];rw [hik];constructor
    .grind
    .rintro ⟨h1,h2,h3,h4⟩
     refine ⟨⟨?_,h2,h3,fun x hx=>h4 x (by omega)⟩,h4 k (by omega) ⟨hok,b,a⟩⟩;rcases Nat.lt_or_ge f k with h' |h'
     .exact h'
     .have:f=k:=by omega
      subst this;have:=h2.2.1;grind
  .obtain ⟨v1,Hp, -, -,e⟩:=W.Ka hok
   have:=notOk gh
   grind
  .have:¬ Ok ops C k:=by
    rintro ⟨-,x |⟨-,x⟩⟩
    .omega
    .rw [h2] at x;cases x
   grind
theorem iq.rl {i j:Nat} (hi:CI P fi ops S C i) (hj:CI P fi ops S C j) (hij:i<j):(pm ops j).testBit i=true:=by
 have key:∀ m,chained m (S j).cw=true->j<ops.size->m.testBit i=true:=fun m h hlt=>zy h _ (W.cw j (by omega) i hij hi)
 rcases hj with hj |⟨rfl,hj⟩
 .cases W.step hj.1 with
  |off a e=>have:=hj.2.2;unfold On at this;grind
  |pure _ b _ _ _ e=>have:=hj.2.1;grind
  |read _ b _ _ _ _ e=>have:=hj.2.1;grind
  |fresh _ b _ _ _ _ _ e=>have:=hj.2.1;grind
  |chain _ _ _ _ _ hc _ _ _ e=>exact key _ hc hj.1.1
 .obtain ⟨v,Hp, -,hp, -⟩:=W.Ka hj
  exact key _ hp.chained hj
theorem iq.Pr {i q:Nat} (hi:Ok ops C i) (hk:kindOf P (oo ops i)= .read) (ho:On fi ops S i) {L:Nat->Prop} (hLi:¬ L i) (hpre:∀ j,(pm ops i).testBit j=true->L j)
  (hcl:∀ x j,L x->x<ops.size->(pm ops x).testBit j=true->L j) (hq:q<=ops.size) (hbef:∀ x,x<q->CI P fi ops S C x->L x) (hat:q<ops.size->CI P fi ops S C q/\¬ L q):
  ∃ v v1 H1 H2,aG P sf (eQ fi (S i).T) (S i).H (oo ops i)=some (.val v H1)/\(S (i+1)).T=dT fi (S i).T (oo ops i).dst v/\aG P sf (eQ fi (S i).T) (S q).H (oo ops i)=some (.val v1 H2)/\(v1=v\/l8 v v1=true):=by
 cases W.step hi with
 |off a e=>unfold On at ho;grind
 |pure _ b _ _ _ e=>grind
 |fresh _ b _ _ _ _ _ e=>grind
 |chain _ b _ _ _ _ _ _ _ e=>grind
 |read _ _ v H1 he hs e=>
  have hsame:∀ {H:IH},sameAt P sf fi (S i).T H (oo ops i) v=true->∃ v1 H2,aG P sf (eQ fi (S i).T) H (oo ops i)=some (.val v1 H2)/\l8 v v1=true:=by
   intro H h;unfold sameAt at h;split at h
   .rename_i v' hv
    unfold BP at hv
    grind
   .cases h
  rcases Nat.lt_or_ge q i with hqi |hqi
  .have hlt:q<ops.size:=by have:=hi.1;omega
   obtain ⟨hc,hnl⟩:=hat hlt;rcases zH hs _ (W.cw i (by have:=hi.1;omega) q hqi hc) with x |x
   .exact absurd (hpre q x) hnl
   grind
  .-- the last link of the chain ahead of q, behind i
   have last:∀ k,i<=k->k<=q->(∀ x,i<=x->x<k->¬ Ch P fi ops S C x)\/∃ c,i<c/\c<k/\Ch P fi ops S C c/\∀ x,c<x->x<k->¬ Ch P fi ops S C x:=by
    intro k
    induction k with
    |zero=>grind
    |succ k ih=>
     intro h1 h2;rcases Nat.lt_or_ge k i with h' |h'
     .grind
     .by_cases hck:Ch P fi ops S C k
      .have hne:i≠k:=by rintro rfl;have:=hck.2.1;rw [hk] at this;cases this
       grind
      .rcases ih h' (by omega) with h3 |⟨c,c1,c2,c3,c4⟩
       .left
        intro x hx hxk;rcases Nat.lt_or_ge x k with h'' |h''
        .exact h3 x hx h''
        .rw [show x=k by omega];exact hck
       grind
   rcases last q hqi (zal _) with h |⟨c,c1,c2,c3,c4⟩
   .have hH:(S q).H=(S i).H:=W.zY q i hqi hq h
    grind
   .have hH:(S q).H=(S (c+1)).H:=W.zY q (c+1) (by omega) hq fun x h1 h2=>c4 x (by omega) h2
    have hLc:L c:=hbef c c2 (.inl c3);have hbit:(pm ops c).testBit i=false:=by
     cases hb:(pm ops c).testBit i with
     |false=>rfl
     |true=>grind
    have hmem:=W.reads c (by omega) i c1 hi hk ho v H1 he;cases W.step c3.1 with
    |off a e'=>have:=c3.2.2;unfold On at this;grind
    |pure _ b _ _ _ e'=>have:=c3.2.1;grind
    |read _ b _ _ _ _ e'=>have:=c3.2.1;grind
    |fresh _ b _ _ _ _ _ e'=>have:=c3.2.1;grind
    |chain _ _ v3 H3 _ _ _ _ hr e'=>
     rcases yG hr _ hmem with x |x
     .simp only at x;rw [hbit] at x;cases x
     grind
end
end Go.Iv
/- Regions that draw their order, the third part: heaps with blocks that lie apart; a new block under a kept id. -/
namespace Go.Iv
open Go
theorem Sx {a b:ByteArray} (h:bl a=bl b):a=b:=by
 cases a;cases b;simp only [bl] at h
 simp_all
theorem A5 {a b:Value} (h:kT a b=true):a=b:=by
 unfold kT at h;split at h
 .grind
 .grind
 .simp at h;rw [Sx h]
 .grind
 .grind
 .grind
 .rfl
 .rfl
 .cases h
theorem pK:∀ {a b:List Value},lX a b=true->a=b:=by
 intro a
 induction a with
 |nil=>intro b h;cases b with
  |nil=>rfl
  |cons=>simp [lX] at h
 |cons x a ih=>
  intro b h;cases b with
  |nil=>simp [lX] at h
  |cons y b=>
   simp only [lX,zae] at h;rw [A5 h.1,ih h.2]
theorem Nt {a b:Value} (h:l8 a b=true):a=b:=by
 unfold l8 at h;split at h
 .rw [Array.toList_inj.1 (pK h)]
 .rw [Array.toList_inj.1 (pK h)]
 .simp only [zae,beq_iff_eq] at h
  rw [h.1.1,Array.toList_inj.1 (pK h.1.2),Array.toList_inj.1 (pK h.2)]
 .exact A5 h
section restrict
variable {Γ1 Γ2 Γ3:Ga} {w w':World}
theorem VR.S9 {Γ:Ga} {v v':Value} (h:VR Γ w v v') {b o l c:Nat} (e:v= .slice (some ⟨b,o,none⟩) l c):Γ.aT b:=by
 cases h<;>cases e<;>assumption
mutual
theorem VR.restrict (hg:∀ i,Γ1.aT i->Γ2.aT i->Γ3.aT i/\Γ3.φ i=Γ1.φ i) {v v' v'':Value} (h:VR Γ1 w v v') (k:VR Γ2 w' v v''):VR Γ3 w v v':=by
 cases h with
 |bool b=>exact .bool b
 |int kk n=>exact .int kk n
 |float kk n=>exact .float kk n
 |complex kk n m=>exact .complex kk n m
 |string s=>exact .string s
 |wN=>exact .wN
 |@ptr b o h=>cases k with |ptr h2=>obtain ⟨h3,h4⟩:=hg _ h h2;rw [show Γ1.at b o=Γ3.at b o by simp [Ga.at,h4]];exact .ptr h3
 |Bu=>exact .Bu
 |@slice b o l c a h hc hl ha=>
  have h2:Γ2.aT b:=k.S9 rfl;obtain ⟨h3,h4⟩:=hg _ h h2;exact .slice h3 hc hl (ha.imp (fun x=>⟨x.1,x.2.trans (by rw [h4])⟩) fun x=>x.trans (by simp [Ga.at,h4]))
 |@dK b o l s c a h hl hr=>
  have h2:Γ2.aT b:=k.S9 rfl;obtain ⟨h3,h4⟩:=hg _ h h2;exact .dK h3 hl (hr.imp (fun x=>⟨x.1,x.2.1,x.2.2.trans (by rw [h4])⟩) fun x=>⟨x.1.trans (by simp [Ga.at,h4]),x.2⟩)
 |EC=>exact .EC
 |@map r h=>cases k with |map h2=>obtain ⟨h3,h4⟩:=hg _ h h2;rw [←h4];exact .map h3
 |Bk=>exact .Bk
 |func hf ha hc=>
  cases k with
  |func hf2 ha2 hc2=>exact .func hf (ha.restrict hg ha2) (hc.restrict hg hc2)
  |yield=>cases hf
 |@yield l h=>
  have h2:Γ2.aT l:=by
   cases k with
   |func hf=>cases hf
   |yield h2=>exact h2
  obtain ⟨h3,h4⟩:=hg _ h h2;rw [←h4];exact .yield h3
 |nilFunc=>exact .nilFunc
 |iface t h=>cases k with |iface _ h2=>exact .iface t (h.restrict hg h2)
 |nilIface=>exact .nilIface
 |agg h=>cases k with |agg h2=>exact .agg (h.restrict hg h2)
 |tuple h=>cases k with |tuple h2=>exact .tuple (h.restrict hg h2)
 |aO v'=>exact .aO v'
theorem bX.restrict (hg:∀ i,Γ1.aT i->Γ2.aT i->Γ3.aT i/\Γ3.φ i=Γ1.φ i) {l l' l'':List Value} (h:bX Γ1 w l l') (k:bX Γ2 w' l l''):bX Γ3 w l l':=by
 cases h with
 |nil=>exact .nil
 |cons h t=>cases k with |cons h2 t2=>exact .cons (h.restrict hg h2) (t.restrict hg t2)
end
theorem gD.restrict (hg:∀ i,Γ1.aT i->Γ2.aT i->Γ3.aT i/\Γ3.φ i=Γ1.φ i) {l l':List MapEntry} (h:gD Γ1 w l l'):∀ {l'':List MapEntry},gD Γ2 w' l l''->gD Γ3 w l l':=by
 induction h with
 |nil=>intro _ _;exact .nil
 |cons hk hf hv hb _ ih=>intro l'' k;cases k with |cons hk2 _ hv2 _ t2=>exact .cons (hk.restrict hg hk2) hf (hv.restrict hg hv2) hb (ih t2)
theorem TR.restrict (hg:∀ i,Γ1.aT i->Γ2.aT i->Γ3.aT i/\Γ3.φ i=Γ1.φ i) {fi:FI} {E:En} {tm tm':Array Value} (h:TR Γ1 w fi E tm) (k:TR Γ2 w' fi E tm'):TR Γ3 w fi E tm:=
 ⟨h.size,fun t=>(h.get t).restrict hg (k.get t)⟩
theorem gd.restrict (hg:∀ i,Γ1.aT i->Γ2.aT i->Γ3.aT i/\Γ3.φ i=Γ1.φ i) {b1 b2 b3:Nat} {o:bN} (e:Γ3.φ b3=Γ1.φ b1) (hro:ep<=b3->ep<=b1) (h:gd Γ1 w b1 o) (k:gd Γ2 w' b2 o):gd Γ3 w b3 o:=by
 cases o with
 |cells cs el fz ex sh=>
  obtain ⟨cs',lo,hi,hc⟩:=h;obtain ⟨cs2,lo2,hi2,hc2⟩:=k;refine ⟨cs',lo,hi,by rw [e];exact hc.block,by rw [e];exact hc.room,fun i v hv=>?_,by rw [e];exact hc.lM,by rw [e];exact fun x=>hc.frozen (hro x),by rw [e];exact hc.Gy⟩;obtain ⟨v',h1,h2⟩:=hc.cell i v hv;obtain ⟨v2, -,h3⟩:=hc2.cell i v hv;exact ⟨v',by grind,h2.restrict hg h3⟩
 |map es ck=>
  obtain ⟨es',h1,h2⟩:=h;obtain ⟨es2, -,h3⟩:=k;exact ⟨es',by grind,h2.restrict hg h3⟩
 |eM s pos=>unfold gd at h ⊢;rw [e];exact h
 |loop st pd fi E ps eo body=>
  obtain ⟨fn,tm,df,h1,h2⟩:=h;obtain ⟨fn2,tm2,df2, -,h3⟩:=k;exact ⟨fn,tm,df,by grind,h2.restrict hg h3⟩
 |mg x=>cases x<;>(unfold gd at h ⊢;rw [e];exact h)
end restrict
section
variable {Γ:Ga} {H:IH} {w:World}
theorem gd.lt {b:Nat} {o:bN} (ho:gd Γ w b o):(Γ.φ b).1<w.heap.size:=by
 have key:∀ x,w.heap[(Γ.φ b).1]? =some x->(Γ.φ b).1<w.heap.size:=fun x hx=>(Array.getElem?_eq_some_iff.1 hx).1
 cases o with
 |cells cs e fz ex sh=>obtain ⟨cs',lo,hi,hc⟩:=ho;exact key _ hc.block
 |map es ck=>obtain ⟨es',h1,_⟩:=ho;exact key _ h1
 |eM s pos=>exact key _ ho.1
 |loop st pd fi E ps eo body=>obtain ⟨fn,tm,df,h1,_⟩:=ho;exact key _ h1
 |mg x=>cases x<;>exact key _ ho
theorem Rh.lay (h:Rh Γ H w) {i:Nat} {ob:bN} (hd:Γ.aT i) (ho:gd Γ w i ob) (hne:∀ j x,H.get j=some x->j≠i->(Γ.φ j).1≠(Γ.φ i).1):Rh Γ (H.put i ob) w:=by
 refine ⟨h.aT,h.ro,h.cq,fun b o hb=>?_,fun b b' o o' hro hb hb' e=>?_,fun b o hb=>?_⟩
 .rw [IH.ag] at hb
  by_cases e1:b=i
  .grind
  .rw [if_neg e1] at hb;exact h.live b o hb
 .rw [IH.ag] at hb hb'
  by_cases e1:b=i<;>by_cases e2:b'=i
  .rw [e1,e2]
  .grind
  .grind
  .rw [if_neg e1] at hb;rw [if_neg e2] at hb';exact h.inj b b' o o' hro hb hb' e
 .rw [IH.ag] at hb
  by_cases e1:b=i
  .grind
  .rw [if_neg e1] at hb;exact h.obj b o hb
structure lz (n0:Nat) (Γ:Ga) (H:IH) (w:World) (low:Nat) (f:Nat) (ob:bN):Prop where
 aT:Γ.aT (n0+f)
 obj:gd Γ w (n0+f) ob
 low:low<=(Γ.φ (n0+f)).1
 ne:∀ i x,H.get i=some x->(Γ.φ i).1≠(Γ.φ (n0+f)).1
theorem bY (n0:Nat):∀ (l:List (Nat×bN)) (H:IH),(aq n0 l H).n=H.n:=by
 intro l H
 induction l with
 |nil=>rfl
 |cons p l ih=>obtain ⟨i,o⟩:=p;simp only [aq,IH.QQ];exact ih
theorem db (n0:Nat):∀ (l:List (Nat×bN)) {H:IH} {i:Nat} {x:bN},(aq n0 l H).get i=some x->H.get i=some x\/∃ f,(f,x)∈l/\i=n0+f:=by
 intro l
 induction l with
 |nil=>intro H i x h;exact .inl h
 |cons p l ih=>
  intro H i x h;obtain ⟨f,o⟩:=p;simp only [aq,IH.ag] at h
  grind
theorem vC {n0 low:Nat} (h:Rh Γ H w):∀ (l:List (Nat×bN)),(∀ p∈l,lz n0 Γ H w low p.1 p.2)->(∀ p∈l,∀ p'∈l,p.1≠p'.1->(Γ.φ (n0+p.1)).1≠(Γ.φ (n0+p'.1)).1)->
  Rh Γ (aq n0 l H) w:=by
 intro l
 induction l with
 |nil=>intro _ _;exact h
 |cons p l ih=>
  intro ha hd;obtain ⟨f,o⟩:=p;have hp:=ha (f,o) List.mem_cons_self;refine (ih (fun p hp=>ha p (zan _ hp)) fun p hp p' hp'=>hd p (zan _ hp) p' (zan _ hp')).lay hp.aT hp.obj fun j x hj hne=>?_
  rcases db n0 l hj with h1 |⟨g,h1,rfl⟩
  .exact hp.ne j x h1
  .exact hd (g,x) (zan _ h1) (f,o) List.mem_cons_self (fun e=>hne (by omega))
structure GG (n0 N:Nat) (Γ0:Ga) (H0:IH) (w0:World) (Lf:Nat->Prop) (Γ:Ga) (H:IH) (w:World):Prop where
 QM:H0.n=n0
 Cd:n0+N<=H.n
 φ:∀ i,(i<n0\/H.n<=i)->Γ.φ i=Γ0.φ i
 aT:∀ i,Γ.aT i↔(Γ0.aT i\/(∃ f,f<N/\Lf f/\i=n0+f)\/(n0+N<=i/\i<H.n))
 size:w0.heap.size<=w.heap.size
 os:w.os=w0.os
 tape:w.tape=w0.tape
 output:w.output=w0.output
 same:eD w0 w
 cE:∀ b,b<w0.heap.size->¬ Bg Γ0 H0 b->w.heap[b]? =w0.heap[b]?
 oR:∀ b,b<w0.heap.size->Bg Γ H b->Bg Γ0 H0 b
 Od:∀ i,i<ep->∀ o,H.get i=some o->∃ o',H0.get i=some o'
variable {n0 N:Nat} {Γ0:Ga} {H0:IH} {w0:World} {Lf:Nat->Prop} {Γ1:Ga} {H1:IH} {w1:World}
theorem GG.Vh (g:GG n0 N Γ0 H0 w0 Lf Γ H w) (h0:Rh Γ0 H0 w0):Γ0.le Γ:=
 ⟨fun i hi=>(g.aT i).2 (.inl hi),fun i hi=>g.φ i (.inl (by have:=h0.aT i hi;have:=g.QM;omega))⟩
theorem lT {l:List (Nat×bN)} {b:Nat} (h:Bg Γ (aq n0 l H) b):Bg Γ H b\/∃ p∈l,(Γ.φ (n0+p.1)).1=b:=by
 obtain ⟨i,o,hi,ho,e⟩:=h;rcases db n0 l ho with h1 |⟨f,h1,rfl⟩
 .exact .inl ⟨i,o,hi,h1,e⟩
 grind
theorem GG.go (h0:Rh Γ0 H0 w0) (g:GG n0 N Γ0 H0 w0 Lf Γ H w) (_hr:Rh Γ H w) {l:List (Nat×bN)} (ha:∀ p∈l,lz n0 Γ H w w0.heap.size p.1 p.2) (hE:Ext Γ (aq n0 l H) w Γ1 H1 w1):
  GG n0 N Γ0 H0 w0 Lf Γ1 H1 w1:=by
 have hn:(aq n0 l H).n=H.n:=bY n0 l H;have h1:=hE.Cd;rw [hn] at h1;have himg:∀ b,b<w0.heap.size->Bg Γ (aq n0 l H) b->Bg Γ0 H0 b:=by
  intro b hb hi;rcases lT hi with x |⟨p,hp,e⟩
  .exact g.oR b hb x
  .have:=(ha p hp).low;omega
 refine ⟨g.QM,by have:=g.Cd;omega,fun i hi=>?_,fun i=>?_,Nat.le_trans g.size hE.size,hE.os.trans g.os,hE.tape.trans g.tape,hE.output.trans g.output,g.same.trans hE.same,fun b hb hi=>?_,fun b hb hi=>?_,fun i hi o ho=>?_⟩
 .have:=g.Cd
  rw [hE.φ i (by rw [hn];omega),g.φ i (by omega)]
 .rw [hE.aT,hn,g.aT]
  have:=g.Cd;constructor
  .rintro ((a |a |a) |a)
   .exact .inl a
   .exact .inr (.inl a)
   .exact .inr (.inr ⟨a.1,by omega⟩)
   .exact .inr (.inr ⟨by omega,a.2⟩)
  grind
 .rw [hE.cE b (Nat.lt_of_lt_of_le hb g.size) (fun x=>hi (himg b hb x)),g.cE b hb hi]
 .exact himg b hb (hE.oR b (Nat.lt_of_lt_of_le hb g.size) hi)
 .obtain ⟨o1,ho1⟩:=hE.Od i hi o ho
  rcases db n0 l ho1 with x |⟨f, -,rfl⟩
  .exact g.Od i hi _ x
  .have:=h0.ro;have:=g.QM;omega
theorem lz.go (h0:Rh Γ0 H0 w0) (g:GG n0 N Γ0 H0 w0 Lf Γ H w) (_hr:Rh Γ H w) {l:List (Nat×bN)} (_ha:∀ p∈l,lz n0 Γ H w w0.heap.size p.1 p.2)
  (hro:Rh Γ (aq n0 l H) w) (hE:Ext Γ (aq n0 l H) w Γ1 H1 w1) (_hr1:Rh Γ1 H1 w1) {f:Nat} {ob:bN} (hf:lz n0 Γ H w w0.heap.size f ob) (hd:∀ p∈l,(Γ.φ (n0+p.1)).1≠(Γ.φ (n0+f)).1):
  lz n0 Γ1 H1 w1 w0.heap.size f ob:=by
 have hle:=hE.le hro;have e:=hle.φ _ hf.aT;have hlt:=hf.obj.lt;have hni:¬ Bg Γ (aq n0 l H) (Γ.φ (n0+f)).1:=by
  intro x;rcases lT x with ⟨i,o,hi,ho,e1⟩ |⟨p,hp,e1⟩
  .exact hf.ne i o ho e1
  .grind
 refine ⟨hle.aT _ hf.aT,hf.obj.mono hle hE.same hf.aT (hE.cE _ hlt hni),by rw [e];exact hf.low,fun i x hx=>?_⟩;rw [e];intro e1;rcases Nat.lt_or_ge i ep with hi |hi
 .obtain ⟨o1,ho1⟩:=hE.Od i hi x hx
  have hdi:=hro.live i o1 ho1;rcases db n0 l ho1 with y |⟨g', -,rfl⟩
  .rw [hle.φ i hdi] at e1
   exact hf.ne i _ y e1
  .have:=h0.ro;have:=g.QM;omega
 .exact hni (hE.oR _ hlt ⟨i,x,hi,hx,e1⟩)
def Ga.fill (Γ:Ga) (n0 N:Nat):Ga:={ φ:=Γ.φ,aT:=fun i=>Γ.aT i\/(n0<=i/\i<n0+N) }
theorem Ga.mC (Γ:Ga) (n0 N:Nat):Γ.le (Γ.fill n0 N):=⟨fun _ h=> .inl h,fun _ _=>rfl⟩
theorem Rh.fill (h:Rh Γ H w) (hn:n0+N<=H.n):Rh (Γ.fill n0 N) H w:=by
 refine ⟨?_,h.ro,fun g hg=>⟨.inl (h.cq g hg).1,(h.cq g hg).2⟩,fun b o hb=> .inl (h.live b o hb),h.inj,fun b o hb=>(h.obj b o hb).mono (Γ.mC n0 N) (.refl w) (h.live b o hb) rfl⟩;rintro b (hb |hb)
 .exact h.aT b hb
 .omega
theorem GG.fill (g:GG n0 N Γ0 H0 w0 Lf Γ H w):Ext Γ0 H0 w0 (Γ.fill n0 N) H w:=by
 have h1:=g.QM;have h2:=g.Cd;refine ⟨by omega,fun i hi=>g.φ i (by omega),fun i=>?_,g.size,g.os,g.tape,g.output,g.same,g.cE,g.oR,g.Od⟩;simp only [Ga.fill,g.aT];constructor
 .rintro ((a |⟨f,a, -,rfl⟩ |a) |a)
  .exact .inl a
  .exact .inr ⟨by omega,by omega⟩
  .exact .inr ⟨by omega,by omega⟩
  .exact .inr ⟨by omega,by omega⟩
 grind
theorem GG.aq (g:GG n0 N Γ0 H0 w0 Lf Γ H w) (h0:Rh Γ0 H0 w0) {l:List (Nat×bN)} (ha:∀ p∈l,lz n0 Γ H w w0.heap.size p.1 p.2):GG n0 N Γ0 H0 w0 Lf Γ (aq n0 l H) w:=by
 have hn:(Iv.aq n0 l H).n=H.n:=bY n0 l H;refine ⟨g.QM,by rw [hn];exact g.Cd,by rw [hn];exact g.φ,by rw [hn];exact g.aT,g.size,g.os,g.tape,g.output,g.same,g.cE,fun b hb hi=>?_,fun i hi o ho=>?_⟩
 .rcases lT hi with x |⟨p,hp,e⟩
  .exact g.oR b hb x
  .have:=(ha p hp).low;omega
 .rcases db n0 l ho with x |⟨f, -,rfl⟩
  .exact g.Od i hi _ x
  .have:=h0.ro;have:=g.QM;omega
end
end Go.Iv
/- Regions that draw their order, the last part: whatever operation comes next, what is known goes on; so such a region comes to what the evaluator says. -/
namespace Go.Iv
open Go
structure uz (ops:Array Oper) (C:Nat) (L:Nat->Prop):Prop where
 ok:∀ x,L x->Ok ops C x
 cl:∀ x j,L x->(pm ops x).testBit j=true->L j
open Classical in
noncomputable def tl (fi:FI) (ops:Array Oper) (S:Nat->DS) (T0:En) (L:Nat->Prop) (t:Nat):Value:=
 if ∃ j,L j/\(oo ops j).dst=some t then ft fi (S ops.size).T t else ft fi T0 t
def pq (P:Program) (fi:FI) (ops:Array Oper) (S:Nat->DS) (C:Nat) (L:Nat->Prop) (f:Nat):Prop:=
 L f/\Fr P fi ops S C f/\∀ x,Ch P fi ops S C x->L x->(pm ops x).testBit f=false
structure Inv (P:Program) (sf:Self) (fi:FI) (ops:Array Oper) (n0:Nat) (T0:En) (S:Nat->DS) (C:Nat) (Γ0:Ga) (H0:IH) (w0:World) (D:List Deferred) (L:Nat->Prop) (Γ:Ga) (a:Act) (w:World) (q:Nat):Prop where
 T4:q<=ops.size
 before:∀ x,x<q->CI P fi ops S C x->L x
 at_:q<ops.size->CI P fi ops S C q/\¬ L q
 rh:Rh Γ (S q).H w
 gg:GG n0 (iR P ops) Γ0 H0 w0 (fun f=>L f/\Fr P fi ops S C f) Γ (S q).H w
 len:a.tmps.size=fi.nt
 tm:∀ t,VR Γ w (tl fi ops S T0 L t) (a.tmps.getD t Go.undef)
 df:Mo Γ w D a.defers
 side:∀ f,pq P fi ops S C L f->lz n0 Γ (S q).H w w0.heap.size f (qe P sf fi ops n0 S f)
 A7:∀ f f',pq P fi ops S C L f->pq P fi ops S C L f'->f≠f'->(Γ.φ (n0+f)).1≠(Γ.φ (n0+f')).1
section
variable {P:Program} {sf:Self} {fi:FI} {ops:Array Oper} {n0:Nat} {T0:En} {Hs:IH} {S:Nat->DS} {C:Nat} {R:DR} (W:iq P sf fi ops n0 T0 Hs S C R)
variable {Γ0:Ga} {H0:IH} {w0:World} {D:List Deferred} {L:Nat->Prop} {Γ Γ1:Ga} {a:Act} {w w1:World} {q:Nat} {H1:IH}
theorem iq.Gf (W:iq P sf fi ops n0 T0 Hs S C R) {i j t:Nat} (hi:i<ops.size) (hj:j<ops.size) (h1:(oo ops i).dst=some t) (h2:(oo ops j).dst=some t):i=j:=
 W.uniq i j _ _ t (gO hi) (gO hj) h1 h2
include W
theorem iq.look (hL:uz ops C L) {i t:Nat} (hi:i<ops.size) (hLi:¬ L i) (hpre:∀ j,(pm ops i).testBit j=true->L j) (ht:t∈(oo ops i).looksAt ops):ft fi (S i).T t=tl fi ops S T0 L t:=by
 have none_:∀ k,k<=ops.size->(∀ x,x<k->(oo ops x).dst≠some t)->ft fi (S k).T t=ft fi T0 t:=fun k hk h=>by
  rw [W.Ah k 0 (Nat.zero_le _) hk fun x _ hx=>h x hx,W.start]
 unfold tl;by_cases hw:∃ j,j<ops.size/\(oo ops j).dst=some t
 .obtain ⟨j,hj,hd⟩:=hw
  rcases W.looks i j _ _ t (gO hi) (gO hj) hd ht with hb |hb
  .have hlt:=W.Fj hi hb
   rw [if_pos ⟨j,hpre j hb,hd⟩];refine (W.Ah ops.size i (by omega) (zal _) fun x h1 h2 e=>?_).symm;have:=W.Gf h2 hj e hd;omega
  .have hlt:=W.Fj hj hb
   rw [if_neg]
   .refine none_ i (by omega) fun x hx e=>?_
    have:=W.Gf (by omega) hj e hd;omega
   .rintro ⟨k,hk,hdk⟩
    have:=W.Gf (hL.ok k hk).1 hj hdk hd;subst this;exact hLi (hL.cl _ _ hk hb)
 .rw [if_neg]
  .grind
  .rintro ⟨k,hk,hdk⟩;exact hw ⟨k,(hL.ok k hk).1,hdk⟩
theorem Inv.tmps (hL:uz ops C L) (I:Inv P sf fi ops n0 T0 S C Γ0 H0 w0 D L Γ a w q) {i:Nat} (hi:i<ops.size) (hLi:¬ L i) (hpre:∀ j,(pm ops i).testBit j=true->L j):
  (∀ t∈(oo ops i).looksAt ops,VR Γ w (ft fi (S i).T t) (a.tmps.getD t Go.undef))/\∀ x,VR Γ w (Az fi ((oo ops i).looksAt ops) (S i).T x) (a.eval x):=by
 have key:∀ t∈(oo ops i).looksAt ops,VR Γ w (ft fi (S i).T t) (a.tmps.getD t Go.undef):=fun t ht=>by
  rw [W.look hL hi hLi hpre ht];exact I.tm t
 refine ⟨key,fun x=>?_⟩;cases x with
 |tmp t=>
  simp only [Az];split
  .rename_i h;exact key t (by simpa using h)
  .exact .aO _
 |const v=>
  simp only [Az,eQ,Act.eval];split
  .rename_i h;exact .iZ h
  .exact .aO _
 |global g=>
  simp only [Az,eQ,Act.eval];split
  .rename_i h
   have hg:=I.rh.cq g h;have:=VR.ptr (w:=w) (o:=0) hg.1;simpa [Ga.at,hg.2] using this
  .exact .aO _
 |func f=>exact .func rfl .nil .nil
theorem iq.R6 {i:Nat} {v:Value} (hi:i<ops.size) (hT:(S (i+1)).T=dT fi (S i).T (oo ops i).dst v) {t:Nat} (ht:t<fi.nt):
  tl fi ops S T0 (fun x=>L x\/x=i) t=if (oo ops i).dst=some t then v else tl fi ops S T0 L t:=by
 unfold tl;by_cases hd:(oo ops i).dst=some t
 .rw [if_pos hd,if_pos ⟨i,.inr rfl,hd⟩,W.Ah ops.size (i+1) (by omega) (zal _),hT,hd,GY _ _ ht]
  intro x h1 h2 e;have:=W.Gf h2 hi e hd;omega
 .rw [if_neg hd]
  congr 1
  grind
omit W in
theorem R8 {t:Nat} (ht:fi.nt<=t):tl fi ops S T0 L t=aO:=by
 unfold tl;split
 .exact za _ ht
 .exact za _ ht
omit W in
theorem B5 (a:Act) (d:Option Tmp) (v:Value):(a.put d v).tmps.size=a.tmps.size:=by cases d<;>simp [Act.put]
omit W in
theorem BR (a:Act) (d:Option Tmp) (v:Value):(a.put d v).defers=a.defers:=by cases d<;>rfl
theorem Inv.put (I:Inv P sf fi ops n0 T0 S C Γ0 H0 w0 D L Γ a w q) {i:Nat} {v v':Value} (hi:i<ops.size) (hT:(S (i+1)).T=dT fi (S i).T (oo ops i).dst v)
  (hg:∀ u u',VR Γ w u u'->VR Γ1 w1 u u') (hv:VR Γ1 w1 v v'):
  ∀ t,VR Γ1 w1 (tl fi ops S T0 (fun x=>L x\/x=i) t) ((a.put (oo ops i).dst v').tmps.getD t Go.undef):=by
 intro t;rcases Nat.lt_or_ge t fi.nt with ht |ht
 .rw [W.R6 hi hT ht]
  by_cases hd:(oo ops i).dst=some t
  .rw [if_pos hd,hd]
   simp only [Act.put];have:t<a.tmps.size:=by rw [I.len];exact ht
   simp_all
  .rw [if_neg hd]
   have e:(a.put (oo ops i).dst v').tmps.getD t Go.undef=a.tmps.getD t Go.undef:=by
    cases hdd:(oo ops i).dst with
    |none=>rfl
    |some d=>
     simp only [Act.put]
     simp_all
   rw [e];exact hg _ _ (I.tm t)
 .rw [R8 ht];exact .aO _
omit W in
theorem L3 (hL:uz ops C L) {i:Nat} (hi:Ok ops C i) (hpre:∀ j,(pm ops i).testBit j=true->L j):uz ops C (fun x=>L x\/x=i):=
 ⟨fun x h=>h.elim (hL.ok x) (fun e=>e▸hi),fun x j h hb=>h.elim (fun h=> .inl (hL.cl x j h hb)) (fun e=> .inl (hpre j (e▸hb)))⟩
theorem Inv.go (I:Inv P sf fi ops n0 T0 S C Γ0 H0 w0 D L Γ a w q) (h0:Rh Γ0 H0 w0) {i:Nat} (hi:i<ops.size) (hnf:¬ Fr P fi ops S C i) {v v':Value} (hT:(S (i+1)).T=dT fi (S i).T (oo ops i).dst v)
  {l:List (Nat×bN)} (hl:∀ p∈l,pq P fi ops S C L p.1/\p.2=qe P sf fi ops n0 S p.1) (habs:∀ f,pq P fi ops S C (fun x=>L x\/x=i) f->∀ p∈l,p.1≠f)
  (hE:Ext Γ (aq n0 l (S q).H) w Γ1 H1 w1) (hr1:Rh Γ1 H1 w1) (hv:VR Γ1 w1 v v') {q':Nat} (hq':q'<=ops.size) (before':∀ x,x<q'->CI P fi ops S C x->L x\/x=i)
  (at':q'<ops.size->CI P fi ops S C q'/\¬ (L q'\/q'=i)) (hH:(S q').H=H1):
  Inv P sf fi ops n0 T0 S C Γ0 H0 w0 D (fun x=>L x\/x=i) Γ1 (a.put (oo ops i).dst v') w1 q':=by
 have ha:∀ p∈l,lz n0 Γ (S q).H w w0.heap.size p.1 p.2:=fun p hp=>by
  obtain ⟨h1,h2⟩:=hl p hp;rw [h2];exact I.side _ h1
 have hro:Rh Γ (aq n0 l (S q).H) w:=vC I.rh l ha fun p hp p' hp' hne=>I.A7 _ _ (hl p hp).1 (hl p' hp').1 hne
 have hle:=hE.le hro;have free:∀ f,pq P fi ops S C (fun x=>L x\/x=i) f->pq P fi ops S C L f:=fun f hf=>by
  rcases hf.1 with h |rfl
  .exact ⟨h,hf.2.1,fun x h1 h2=>hf.2.2 x h1 (.inl h2)⟩
  .exact absurd hf.2.1 hnf
 have hgg:=I.gg.go h0 I.rh ha hE;have hLf:(fun f=>L f/\Fr P fi ops S C f)=(fun f=>(L f\/f=i)/\Fr P fi ops S C f):=by
  funext f;refine propext ⟨fun h=>⟨.inl h.1,h.2⟩,?_⟩;rintro ⟨h |rfl,h2⟩
  .grind
  .grind
 rw [hLf] at hgg;refine ⟨hq',before',at',by grind,by grind,by rw [B5];exact I.len,I.put W hi hT (fun u u' h=>h.mono hle hE.same) hv,by rw [BR];exact I.df.mono hle hE.same,fun f hf=>?_,fun f f' hf hf' hne=>?_⟩
 .rw [hH]
  exact (I.side f (free f hf)).go h0 I.gg I.rh ha hro hE hr1 fun p hp=>I.A7 _ _ (hl p hp).1 (free f hf) (habs f hf p hp)
 .have e1:=hle.φ _ (I.side f (free f hf)).aT
  have e2:=hle.φ _ (I.side f' (free f' hf')).aT;rw [e1,e2];exact I.A7 f f' (free f hf) (free f' hf') hne
theorem Inv.lay (I:Inv P sf fi ops n0 T0 S C Γ0 H0 w0 D L Γ a w q) (h0:Rh Γ0 H0 w0) {i:Nat} (hL:uz ops C L) (hLi:¬ L i) (hf:Fr P fi ops S C i) {rr:Result Next}
  {vf:Nat->Value} (hnv:Nu vf) {ob:bN} (hob:ob=qe P sf fi ops n0 S i) (hT:(S (i+1)).T=dT fi (S i).T (oo ops i).dst (vf (n0+i)))
  (hrun:∀ (Γ':Ga) (H':IH),Rh Γ' H' w->(∀ x,VR Γ' w (Az fi ((oo ops i).looksAt ops) (S i).T x) (a.eval x))->Good Γ' H' w rr (.val (vf H'.n) (H'.new ob)))
  (htm:∀ x,VR Γ w (Az fi ((oo ops i).looksAt ops) (S i).T x) (a.eval x)):
  ∃ v' w1,rr= .ok (.value v') w1/\∃ Γ2,Inv P sf fi ops n0 T0 S C Γ0 H0 w0 D (fun x=>L x\/x=i) Γ2 (a.put (oo ops i).dst v') w1 q:=by
 obtain ⟨v',w1,Γ1,hrr,hv1,hr1,hE1⟩:=hrun Γ (S q).H I.rh htm;have hi:=hf.1.1;have hir:=PD hf;have hge:=h0.ro;have hn0:=I.gg.QM;have hnle:=I.gg.Cd;have hR':Rh Γ { (S q).H with n:=(S q).H.n+1 } w:=⟨fun b hb=>Nat.lt_succ_of_lt (I.rh.aT b hb),Nat.le_succ_of_le I.rh.ro,I.rh.cq,I.rh.live,I.rh.inj,I.rh.obj⟩;obtain ⟨v2,w2,Γ2,hrr2,hv2,hr2,hE2⟩:=hrun Γ _ hR' htm;rw [hrr] at hrr2;cases hrr2;refine ⟨v',w1,hrr,?_⟩;have rh:=I.rh;have gg:=I.gg;have side:=I.side;generalize hH:(S q).H=H at*;have hle1:=hE1.le rh;have hle2:=hE2.le hR';have hdn:¬ Γ.aT H.n:=fun x=>by have:=rh.aT _ x;omega
 have hdi:¬ Γ.aT (n0+i):=by
  intro x;rcases (gg.aT _).1 x with x |⟨f, -,h1,h2⟩ |x
  .have:=h0.aT _ x;omega
  .grind
  .omega
 let Γ3:Ga:={ φ:=fun j=>if j=n0+i then Γ1.φ H.n else Γ.φ j,aT:=fun j=>Γ.aT j\/j=n0+i }
 have e3:Γ3.φ (n0+i)=Γ1.φ H.n:=by simp [Γ3]
 have o3:∀ j,j≠n0+i->Γ3.φ j=Γ.φ j:=fun j h=>by simp [Γ3,h]
 have both:∀ j,Γ1.aT j->Γ2.aT j->Γ3.aT j/\Γ3.φ j=Γ1.φ j:=by
  intro j h1 h2;have hd:Γ.aT j:=by
   rcases (hE1.aT j).1 h1 with x |x
   .exact x
   .rcases (hE2.aT j).1 h2 with y |y
    .exact y
    .simp only [IH.LX] at x y;omega
  have hne:j≠n0+i:=by rintro rfl;exact hdi hd
  exact ⟨.inl hd,by rw [o3 j hne,hle1.φ j hd]⟩
 have hle3:Γ.le Γ3:=⟨fun j h=> .inl h,fun j h=>o3 j (by grind)⟩;have live1:∀ b o,H.get b=some o->(H.new ob).get b=some o/\(({ H with n:=H.n+1 }:IH).new ob).get b=some o:=by
  intro b o hb;have:=rh.aT b (rh.live b o hb);refine ⟨by rw [IH.ay,if_neg (by omega)];exact hb,?_⟩;rw [IH.ay,if_neg (by grind)];exact hb
 have hobj:∀ b o,H.get b=some o->gd Γ3 w1 b o:=by
  intro b o hb;have hd:=rh.live b o hb;obtain ⟨g1,g2⟩:=live1 b o hb;exact (hr1.obj b o g1).restrict both (by rw [hle3.φ b hd,hle1.φ b hd]) (fun x=>x) (hr2.obj b o g2)
 have hnew:gd Γ3 w1 (n0+i) ob:=
  (hr1.obj H.n ob (by rw [IH.ay,if_pos rfl])).restrict both e3 (fun _=>rh.ro) (hr2.obj (H.n+1) ob (by rw [IH.ay];grind))
 have hv3:VR Γ3 w1 (vf (n0+i)) v':=by
  have hd3:Γ3.aT (n0+i):= .inr rfl;cases hnv with
  |ptr=>
   simp only [ptrTo] at hv1 ⊢;cases hv1 with |ptr h=>rw [show Γ1.at H.n 0=Γ3.at (n0+i) 0 by simp [Ga.at,e3]];exact .ptr hd3
  |slice l c=>
   generalize hx:Value.slice (some ⟨H.n,0,none⟩) l c=x at hv1;cases hv1<;>cases hx
   .rename_i h hc ha hl;exact .slice hd3 hc hl (ha.imp (fun x=>⟨x.1,x.2.trans (by rw [e3])⟩) fun x=>x.trans (by simp [Ga.at,e3]))
   .rename_i h hl hr;exact .dK hd3 hl (hr.imp (fun x=>⟨x.1,x.2.1,x.2.2.trans (by rw [e3])⟩) fun x=>⟨x.1.trans (by simp [Ga.at,e3]),x.2⟩)
  |map=>
   cases hv1 with |map h=>rw [←e3];exact .map hd3
 have hImg1:∀ b,Bg Γ3 H b->Bg Γ1 (H.new ob) b:=by
  rintro b ⟨j,o,h1,h2,h3⟩;have hd:=rh.live j o h2;exact ⟨j,o,h1,(live1 j o h2).1,by rw [hle1.φ j hd,←hle3.φ j hd];exact h3⟩
 have newlive:(H.new ob).get H.n=some ob:=by rw [IH.ay,if_pos rfl]
 have notlive:∀ j o,H.get j=some o->(Γ.φ j).1≠(Γ1.φ H.n).1:=by
  intro j o hj e;have hd:=rh.live j o hj;have:=(hr1.inj H.n j ob o rh.ro newlive (live1 j o hj).1 (by rw [hle1.φ j hd];exact e.symm)).symm;have:=rh.aT j hd;omega
 have lowb:w0.heap.size<=(Γ1.φ H.n).1:=by
  rcases Nat.lt_or_ge (Γ1.φ H.n).1 w0.heap.size with x |x
  .obtain ⟨j,o,h1,h2,h3⟩:=hE1.oR _ (Nat.lt_of_lt_of_le x gg.size) ⟨H.n,ob,rh.ro,newlive,rfl⟩
   grind
  .exact x
 have hr3:Rh Γ3 H w1:=by
  refine ⟨?_,rh.ro,fun g hg=>⟨.inl (rh.cq g hg).1,(hle3.φ g (rh.cq g hg).1).trans (rh.cq g hg).2⟩,fun b o hb=> .inl (rh.live b o hb),fun b b' o o' hro hb hb' e=>?_,hobj⟩
  .rintro b (hb |rfl)
   .exact rh.aT b hb
   .omega
  .rw [hle3.φ b (rh.live b o hb),hle3.φ b' (rh.live b' o' hb')] at e
   exact rh.inj b b' o o' hro hb hb' e
 have isImg:∀ b,Bg Γ H b↔Bg Γ3 H b:=fun b=>by
  constructor
  .rintro ⟨j,o,h1,h2,h3⟩;exact ⟨j,o,h1,h2,by rw [hle3.φ j (rh.live j o h2)];exact h3⟩
  .rintro ⟨j,o,h1,h2,h3⟩;exact ⟨j,o,h1,h2,by rw [←hle3.φ j (rh.live j o h2)];exact h3⟩
 have old:∀ f,pq P fi ops S C (fun x=>L x\/x=i) f->f≠i->pq P fi ops S C L f:=fun f hf hne=>by
  rcases hf.1 with h |rfl
  .exact ⟨h,hf.2.1,fun x h1 h2=>hf.2.2 x h1 (.inl h2)⟩
  omega
 have sideNe:∀ f,pq P fi ops S C L f->(Γ.φ (n0+f)).1≠(Γ1.φ H.n).1:=by
  intro f hf e;have hs:=side f hf;obtain ⟨j,o,h1,h2,h3⟩:=hE1.oR (Γ.φ (n0+f)).1 hs.obj.lt ⟨H.n,ob,rh.ro,newlive,e.symm⟩;exact hs.ne j o h2 h3
 have φf:∀ f,f≠i->Γ3.φ (n0+f)=Γ.φ (n0+f):=fun f h=>o3 _ (by omega)
 have hgg:GG n0 (iR P ops) Γ0 H0 w0 (fun f=>(L f\/f=i)/\Fr P fi ops S C f) Γ3 H w1:=by
  refine ⟨hn0,hnle,fun j hj=>?_,fun j=>?_,Nat.le_trans gg.size hE1.size,hE1.os.trans gg.os,hE1.tape.trans gg.tape,hE1.output.trans gg.output,gg.same.trans hE1.same,fun b hb hni=>?_,fun b hb hbi=>gg.oR b hb ((isImg b).2 hbi),gg.Od⟩
  .rw [o3 j (by omega)];exact gg.φ j hj
  .simp only [Γ3,gg.aT]
   constructor
   .rintro ((x |⟨f,h1,h2,h3⟩ |x) |rfl)
    .exact .inl x
    .exact .inr (.inl ⟨f,h1,⟨.inl h2.1,h2.2⟩,h3⟩)
    .exact .inr (.inr x)
    .exact .inr (.inl ⟨i,hir,⟨.inr rfl,hf⟩,rfl⟩)
   grind
  .rw [hE1.cE b (Nat.lt_of_lt_of_le hb gg.size) (fun x=>hni (gg.oR b hb x)),gg.cE b hb hni]
 refine ⟨Γ3,I.T4,fun x hx hc=> .inl (I.before x hx hc),fun hq=>⟨(I.at_ hq).1,?_⟩,by grind,by grind,by rw [B5];exact I.len,
  I.put W hi hT (fun u u' h=>h.mono hle3 hE1.same) hv3,by rw [BR];exact I.df.mono hle3 hE1.same,fun f hf'=>?_,fun f f' hf1 hf2 hne=>?_⟩
 .rintro (h |rfl)
  .exact (I.at_ hq).2 h
  .rcases (I.at_ hq).1 with h |⟨rfl, -⟩
   .have:=h.2.1;rw [hf.2.1] at this;cases this
   .exact gh hf.1
 .rw [hH]
  by_cases hfi:f=i
  .subst hfi
   rw [←hob];exact ⟨.inr rfl,hnew,by grind,fun j x hj=>by rw [e3,hle3.φ j (rh.live j x hj)];grind⟩
  .have hs:=side f (old f hf' hfi)
   refine ⟨.inl hs.aT,hs.obj.mono hle3 hE1.same hs.aT ?_,by rw [φf f hfi];exact hs.low,fun j x hj=>by rw [φf f hfi,hle3.φ j (rh.live j x hj)];exact hs.ne j x hj⟩;refine hE1.cE _ hs.obj.lt ?_;rintro ⟨j,o, -,h2,h3⟩;exact hs.ne j o h2 h3
 .by_cases h1:f=i<;>by_cases h2:f'=i
  .omega
  .grind
  .grind
  .rw [φf f h1,φf f' h2];exact I.A7 f f' (old f hf1 h1) (old f' hf2 h2) hne
end
end Go.Iv
/- A region that draws its order comes to what the evaluator says. -/
namespace Go.Iv
open Go
section
variable {P:Program} {sf:Self} {fi:FI} {ops:Array Oper} {n0:Nat} {T0:En} {Hs:IH} {S:Nat->DS} {C:Nat} {R:DR} (W:iq P sf fi ops n0 T0 Hs S C R)
variable {Γ0:Ga} {H0:IH} {w0:World} {D:List Deferred} {L:Nat->Prop} {Γ Γ1:Ga} {a:Act} {w w1:World} {q:Nat} {H1:IH}
include W
omit W in
theorem Q8 (k:Nat) (hk:k<=ops.size):∃ q,k<=q/\q<=ops.size/\(∀ x,k<=x->x<q->¬ CI P fi ops S C x)/\(q<ops.size->CI P fi ops S C q):=by
 have key:∀ d k,ops.size - k=d->k<=ops.size->∃ q,k<=q/\q<=ops.size/\(∀ x,k<=x->x<q->¬ CI P fi ops S C x)/\(q<ops.size->CI P fi ops S C q):=by
  intro d
  induction d with
  |zero=>intro k h1 h2;exact ⟨k,zal _,h2,fun x _ _=>by omega,fun _=>by omega⟩
  |succ d ih=>
   intro k h1 h2;by_cases hc:CI P fi ops S C k
   .exact ⟨k,zal _,h2,fun x _ _=>by omega,fun _=>hc⟩
   .obtain ⟨q,h3,h4,h5,h6⟩:=ih (k+1) (by omega) (by omega)
    refine ⟨q,by omega,h4,fun x hx hxq=>?_,h6⟩;rcases Nat.lt_or_ge k x with h' |h'
    .exact h5 x (by omega) hxq
    .rw [show x=k by omega];exact hc
 grind
theorem Inv.TP (_hL:uz ops C L) (I:Inv P sf fi ops n0 T0 S C Γ0 H0 w0 D L Γ a w q) {i:Nat} (hi:CI P fi ops S C i) (his:i<ops.size) (hLi:¬ L i) (hpre:∀ j,(pm ops i).testBit j=true->L j):q=i:=by
 rcases Nat.lt_trichotomy q i with h |h |h
 .have hq:=I.at_ (by omega)
  exact absurd (hpre q (W.rl hq.1 hi h)) hq.2
 .exact h
 .exact absurd (I.before i h hi) hLi
theorem Inv.taken (I:Inv P sf fi ops n0 T0 S C Γ0 H0 w0 D L Γ a w q) (hL:uz ops C L) (hq:q<ops.size) (hpre:∀ j,(pm ops q).testBit j=true->L j):
  (∀ p∈(S q).bq.filter (fun x=>(pm ops q).testBit x.1),(pm ops q).testBit p.1=true/\pq P fi ops S C L p.1/\p.2=qe P sf fi ops n0 S p.1):=by
 intro p hp;obtain ⟨f,ob⟩:=p;simp only [List.mem_filter] at hp;obtain ⟨h1,h2⟩:=hp;obtain ⟨g1,g2,g3,g4⟩:=(W.bq q (by omega) f ob).1 h1;refine ⟨h2,⟨hpre f h2,g2,fun x hx hLx=>?_⟩,g3⟩;rcases Nat.lt_or_ge x q with h |h
 .exact g4 x h hx
 .exfalso
  rcases Nat.lt_or_ge q x with h' |h'
  .exact (I.at_ hq).2 (hL.cl x q hLx (W.rl (I.at_ hq).1 (.inl hx) h'))
  .rw [show x=q by omega] at hLx;exact (I.at_ hq).2 hLx
omit W in
theorem Inv.apart (I:Inv P sf fi ops n0 T0 S C Γ0 H0 w0 D L Γ a w q) {l:List (Nat×bN)} (hl:∀ p∈l,pq P fi ops S C L p.1/\p.2=qe P sf fi ops n0 S p.1):
  (∀ p∈l,lz n0 Γ (S q).H w w0.heap.size p.1 p.2)/\Rh Γ (aq n0 l (S q).H) w:=by
 have ha:∀ p∈l,lz n0 Γ (S q).H w w0.heap.size p.1 p.2:=fun p hp=>by
  obtain ⟨h1,h2⟩:=hl p hp;rw [h2];exact I.side _ h1
 exact ⟨ha,vC I.rh l ha fun p hp p' hp' hne=>I.A7 _ _ (hl p hp).1 (hl p' hp').1 hne⟩
omit W in
theorem Tu (I:GG n0 (iR P ops) Γ0 H0 w0 (fun f=>L f/\Fr P fi ops S C f) Γ H1 w) (h0:Rh Γ0 H0 w0) {ro:Option Nat} (hro:pV Γ0 ro):FO Γ ro=FO Γ0 ro:=xv (I.Vh h0) hro
theorem iq.one (Sd:Sound P sf) (hng:lr P=true) (h0:Rh Γ0 H0 w0) {ro:Option Nat} (hro:pV Γ0 ro) (hL:uz ops C L) (I:Inv P sf fi ops n0 T0 S C Γ0 H0 w0 D L Γ a w q) {i:Nat} (hi:i<ops.size) (hLi:¬ L i)
  (hpre:∀ j,(pm ops i).testBit j=true->L j) {K:Act->World->Prop} {Q:Exit->Act->World->Prop}
  (hK:Ok ops C i->∀ Γ1 a1 w1 q1,Inv P sf fi ops n0 T0 S C Γ0 H0 w0 D (fun x=>L x\/x=i) Γ1 a1 w1 q1->K a1 w1)
  (hQ:∀ v Hp,R= .panic v Hp->∀ Γ1 w1 v',VR Γ1 w1 v v'->Rh Γ1 Hp w1->GG n0 (iR P ops) Γ0 H0 w0 (fun f=>L f/\Fr P fi ops S C f) Γ1 Hp w1->(∀ u u',VR Γ w u u'->VR Γ1 w1 u u')->Mo Γ1 w1 D a.defers->
   Q (.panic [{ v:=v',recovered:=false }]) a w1):
  wpOpIn (FO Γ0 ro) 0 P ops Q i K a w:=by
 have hF:=Tu I.gg h0 hro;obtain ⟨hlk,htm⟩:=I.tmps W hL hi hLi hpre;have hev:∀ H,aG P sf (Az fi ((oo ops i).looksAt ops) (S i).T) H (oo ops i)=aG P sf (eQ fi (S i).T) H (oo ops i):=fun H=>I9
 have hwant:∀ b,cg fi ops (S i).T (oo ops i)=some b->Region.wanted (oo ops i) (yielded ops a.tmps)=b:=fun b hb=>
  xN (fun g b' hg t ht=>hlk t (List.mem_append_right _ (by simp [hg,ht]))) hb
 unfold wpOpIn;rw [gO hi];simp only
 have run:∀ {l:List (Nat×bN)} {res:az} {K':Act->World->Prop},(∀ p∈l,pq P fi ops S C L p.1/\p.2=qe P sf fi ops n0 S p.1)->aG P sf (eQ fi (S i).T) (aq n0 l (S q).H) (oo ops i)=some res->(∀ d H,res≠ .defer d H)->
   Ts Γ (aq n0 l (S q).H) w a (oo ops i) K' Q res->(oo ops i).wpIn (FO Γ0 ro) 0 P a w K' Q:=by
  intro l res K' hl he hnd hk;rw [←hF];exact lB Sd hng (I.apart hl).2 htm (by grind) (fun d H e=>absurd e (hnd d H)) hk
 have hcase:Ok ops C i\/(i=C/\C<ops.size):=by
  rcases W.cases i hi with h |h |⟨h1,h2, -⟩
  .exact .inl h
  .exact .inr h
  .exact absurd (hL.ok _ (hpre C h2)) gh
 rcases hcase with hok |⟨rfl,hC⟩
 .-- the same link comes next
  have stay:∀ {v v':Value} {Γ1:Ga} {w1:World},(S (i+1)).T=dT fi (S i).T (oo ops i).dst v->¬ CI P fi ops S C i->¬ Fr P fi ops S C i->VR Γ1 w1 v v'->Rh Γ1 (S q).H w1->Ext Γ (S q).H w Γ1 (S q).H w1->K (a.put (oo ops i).dst v') w1:=by
   intro v v' Γ1 w1 hT hnc hnf hv hr1 hE;refine hK hok Γ1 _ w1 q (I.go W h0 hi hnf hT (l:= []) (fun p hp=>by cases hp) (fun f _ p hp=>by cases hp) hE hr1 hv I.T4 (fun x hx hc=> .inl (I.before x hx hc)) (fun hq=>⟨(I.at_ hq).1,?_⟩) rfl);rintro (h |rfl)
   .exact (I.at_ hq).2 h
   .exact hnc (I.at_ hq).1
  have notC:¬ (i=C/\C<ops.size):=by rintro ⟨rfl, -⟩;exact gh hok
  cases W.step hok with
  |off h e=>
   rw [hwant _ h,if_neg (by simp)];have hoff:¬ On fi ops S i:=by unfold On;rw [h];intro x;cases x
   exact ⟨fun f _=>vB _ f,stay (by rw [e]) (fun hc=>hc.elim (fun x=>hoff x.2.2) notC) (fun hf=>hoff hf.2.2) .undef I.rh (.refl _ _ _)⟩
  |pure h k v H1 he e=>
   rw [hwant _ h,if_pos rfl];obtain ⟨v0,hv0,hany⟩:=oV k _ _ he;cases hv0;exact run (l:= []) (fun p hp=>by cases hp) (hany _) (fun d H x=>by cases x) fun Γ1 w1 v' hv hr1 hE=>
    stay (by rw [e]) (fun hc=>hc.elim (fun x=>by have:=x.2.1;grind) notC) (fun hf=>by have:=hf.2.1;grind) hv hr1 hE
  |read h k v0 H2 he0 hs e=>
   rw [hwant _ h,if_pos rfl];obtain ⟨v,v1,H3,H4,he,hT,he2,hsame⟩:=W.Pr hok k h hLi hpre (fun x j h _=>hL.cl x j h) I.T4 I.before I.at_;have hvv:v1=v:=hsame.elim id fun x=>(Nt x).symm
   have hkeep:H4=(S q).H:=xX k _ _ _ he2;subst hkeep;subst hvv;exact run (l:= []) (fun p hp=>by cases hp) he2 (fun d H x=>by cases x) fun Γ1 w1 v' hv hr1 hE=>
    stay hT (fun hc=>hc.elim (fun x=>by have:=x.2.1;grind) notC) (fun hf=>by have:=hf.2.1;grind) hv hr1 hE
  |fresh h k v H2 ob he hb e=>
   rw [hwant _ h,if_pos rfl];obtain ⟨vf,ob',hnv,hall⟩:=Ip k _ _ _ he;have hfr:Fr P fi ops S C i:=⟨hok,k,h⟩;have heq:=hall { (S i).H with n:=n0+i };simp only at heq he;rw [he] at heq;simp only [Option.some.injEq,az.val.injEq] at heq;obtain ⟨rfl,rfl⟩:=heq;have hob:ob'=qe P sf fi ops n0 S i:=by
    unfold qe;rw [he];simp only [IH.ay];rfl
   obtain ⟨hpl,hnd⟩:=wF (o:=oo ops i) (P:=P) (by grind)
   obtain ⟨v',w1,hrr,Γ2,I2⟩:=I.lay W h0 hL hLi hfr hnv hob (by rw [e]) (rr:=(execOp a.eval (oo ops i)).run P w)
    (fun Γ' H' hr' ht'=>yA hr' ht' hpl (by rw [hev];exact hall H')) htm
   refine ⟨fun f _=>vB _ f,?_⟩;rw [vg (.inl hnd),hrr];exact hK hok Γ2 _ w1 q I2
  |chain h k v H2 res hc hres he hr e=>
   rw [hwant _ h,if_pos rfl];have hch:CI P fi ops S C i:= .inl ⟨hok,k,h⟩;have hqi:q=i:=I.TP W hL hch hi hLi hpre;subst hqi;have htk:=I.taken W hL hi hpre;obtain ⟨q',g1,g2,g3,g4⟩:=Q8 (P:=P) (fi:=fi) (S:=S) (C:=C) (q+1) hi;have hH:(S q').H=H2:=by
    rw [W.zY q' (q+1) g1 g2 fun x h1 h2 h3=>g3 x h1 h2 (.inl h3),e]
   have fin:∀ {v':Value} {Γ1:Ga} {w1:World},VR Γ1 w1 v v'->Rh Γ1 H2 w1->Ext Γ (aq n0 ((S q).bq.filter fun x=>(pm ops q).testBit x.1) (S q).H) w Γ1 H2 w1->K (a.put (oo ops q).dst v') w1:=by
    intro v' Γ1 w1 hv hr1 hE;refine hK hok Γ1 _ w1 q' (I.go W h0 hi (fun hf=>by have:=hf.2.1;grind) (by rw [e]) (fun p hp=>(htk p hp).2) (fun f hf p hp e1=>?_) hE hr1 hv g2 (fun x hx hcx=>?_) (fun hq=>⟨g4 hq,?_⟩) hH)
    .have:=hf.2.2 q ⟨hok,k,h⟩ (.inr rfl)
     grind
    .rcases Nat.lt_trichotomy x q with h' |h' |h'
     .exact .inl (I.before x h' hcx)
     .exact .inr h'
     grind
    .rintro (h' |h')
     .exact hLi (hL.cl q' q h' (W.rl hch (g4 hq) (by omega)))
     .omega
   rcases hres with rfl |⟨rfl,rfl⟩
   .exact run (fun p hp=>(htk p hp).2) he (fun d H x=>by cases x) fun Γ1 w1 v' hv hr1 hE=>fin hv hr1 hE
   .exact run (fun p hp=>(htk p hp).2) he (fun d H x=>by cases x) fun Γ1 w1 hr1 hE=>fin .undef hr1 hE
 .obtain ⟨v,Hp,hR,hp, -⟩:=W.Ka hC
  rw [hwant _ hp.wanted,if_pos rfl];have hqi:q=i:=I.TP W hL (.inr ⟨rfl,hC⟩) hi hLi hpre;subst hqi;have htk:=I.taken W hL hi hpre;refine run (fun p hp=>(htk p hp).2) hp.ev (fun d H x=>by cases x) fun Γ1 w1 v' hv hr1 hE=>?_
  obtain ⟨ha,hro'⟩:=I.apart (fun p hp=>(htk p hp).2);have hle:=hE.le hro';exact hQ v Hp hR Γ1 w1 v' hv hr1 (I.gg.go h0 I.rh ha hE) (fun u u' x=>x.mono hle hE.same) (I.df.mono hle hE.same)
theorem iq.any (Sd:Sound P sf) (hng:lr P=true) (h0:Rh Γ0 H0 w0) {ro:Option Nat} (hro:pV Γ0 ro) {Q:Exit->Act->World->Prop}
  (hN:∀ L Γ a w q,uz ops C L->Inv P sf fi ops n0 T0 S C Γ0 H0 w0 D L Γ a w q->(∀ i,i<ops.size->L i)->Q .normal a w)
  (hQ:∀ L Γ a w q,uz ops C L->Inv P sf fi ops n0 T0 S C Γ0 H0 w0 D L Γ a w q->∀ v Hp,R= .panic v Hp->∀ Γ1 w1 v',VR Γ1 w1 v v'->Rh Γ1 Hp w1->GG n0 (iR P ops) Γ0 H0 w0 (fun f=>L f/\Fr P fi ops S C f) Γ1 Hp w1->
   (∀ u u',VR Γ w u u'->VR Γ1 w1 u u')->Mo Γ1 w1 D a.defers->Q (.panic [{ v:=v',recovered:=false }]) a w1):
  ∀ (fuel:Nat) (listed:Array Bool) (L:Nat->Prop) (Γ:Ga) (a:Act) (w:World) (q:Nat),listed.size=ops.size->listed.toList.countP (fun b=> !b)<=fuel->(∀ i,i<ops.size->(listed.getD i false=true↔L i))->uz ops C L->
   Inv P sf fi ops n0 T0 S C Γ0 H0 w0 D L Γ a w q->wpAnyIn (FO Γ0 ro) 0 P .any ops Q fuel listed a w:=by
 have getD_eq:∀ (listed:Array Bool) (i:Nat),listed.size=ops.size->i<ops.size->listed.getD i true=listed.getD i false:=by
  intro listed i h1 h2;simp [h1,h2]
 have all:∀ (listed:Array Bool) (L:Nat->Prop),listed.size=ops.size->(∀ i,i<ops.size->(listed.getD i false=true↔L i))->Region.ready .any ops listed= []->∀ i,i<ops.size->L i:=by
  intro listed L hsz hlist hr i
  induction i using Nat.strongRecOn with
  |_ i ih=>
   intro hi;rw [←hlist i hi];cases hb:listed.getD i false with
   |true=>rfl
   |false=>
    exfalso
    have:i∈Region.ready .any ops listed:=by
     rw [mem_ready];refine ⟨by rw [getD_eq listed i hsz hi];exact hb,_,gO hi,fun e he hbe=>?_⟩;have hlt:=W.back i _ (gO hi) e he hbe;exact (hlist e.on (by omega)).2 (ih e.on hlt (by omega))
    grind
 intro fuel
 induction fuel with
 |zero=>
  intro listed L Γ a w q hsz hcnt hlist hL I;have hr:Region.ready .any ops listed= []:=by
   cases hr:Region.ready .any ops listed with
   |nil=>rfl
   |cons i rs=>
    exfalso
    have hmem:i∈Region.ready .any ops listed:=by rw [hr];exact List.mem_cons_self
    obtain ⟨h1,o,h2, -⟩:=mem_ready.1 hmem;have hi:i<listed.size:=by rw [hsz];exact (Array.getElem?_eq_some_iff.1 h2).1
    have:0<listed.toList.countP (fun b=> !b):=List.countP_pos_iff.2 ⟨listed[i],by simp,by simpa [hi] using h1⟩;omega
  exact ⟨hr,hN L Γ a w q hL I (all listed L hsz hlist hr)⟩
 |succ fuel ih=>
  intro listed L Γ a w q hsz hcnt hlist hL I;refine ⟨fun hr=>hN L Γ a w q hL I (all listed L hsz hlist hr),fun i hi=>?_⟩;obtain ⟨h1,o,h2,h3⟩:=mem_ready.1 hi;have his:i<ops.size:=(Array.getElem?_eq_some_iff.1 h2).1;have hfalse:listed.getD i false=false:=by rw [←getD_eq listed i hsz his];exact h1
  have hLi:¬ L i:=fun h=>by grind
  have hpre:∀ j,(pm ops i).testBit j=true->L j:=by
   intro j hj;obtain ⟨e,he,hbe,h⟩:=(Lv W.back h2).1 hj;have hlt:=W.back i o h2 e he hbe;have hLe:L e.on:=(hlist e.on (by omega)).1 (h3 e he hbe);rcases h with rfl |h
   .exact hLe
   .exact hL.cl _ _ hLe h
  refine W.one Sd hng h0 hro hL I his hLi hpre (fun hok Γ1 a1 w1 q1 I1=>?_) (fun v Hp hR Γ1 w1 v'=>hQ L Γ a w q hL I v Hp hR Γ1 w1 v');refine ih _ _ Γ1 a1 w1 q1 (by simpa using hsz) ?_ (fun j hj=>?_) (L3 hL hok hpre) I1
  .have hlt:i<listed.toList.length:=by simpa [hsz] using his
   have hval:listed.toList[i]=false:=by
    have:i<listed.size:=by rw [hsz];exact his
    simpa [this] using hfalse
   grind
  .by_cases hij:i=j
   .simp_all
   .rw [getD_set_ne false hij,hlist j hj]
    grind
end
theorem wE {fi:FI}:∀ (l:List Oper) (T:En) (t:Nat),ft fi (gY fi l T) t=aO\/(ft fi (gY fi l T) t=ft fi T t/\∀ o∈l,o.dst≠some t):=by
 intro l
 induction l with
 |nil=>intro T t;exact .inr ⟨rfl,fun o ho=>by cases ho⟩
 |cons o l ih=>
  intro T t;simp only [gY];rcases ih (dT fi T o.dst aO) t with h1 |⟨h1,h2⟩
  .exact .inl h1
  .by_cases hd:o.dst=some t
   .left
    rw [h1,hd];rcases Nat.lt_or_ge t fi.nt with ht |ht
    .exact GY _ _ ht
    .exact za _ ht
   .rw [h1,Gj _ hd]
    grind
variable {P:Program}
theorem Qu (hm:P.follows .mixedOrders=true) (hng:lr P=true):∀ sf,Sound P sf->qt P sf:=by
 intro sf Sd fi ro id ops T H D r Γ w a h hro hst;refine wpIn_region_any hm ?_;have hw:({ w with drawn:=w.drawn+1 }:World)=w.drew:=rfl;rw [hw];obtain ⟨hRd,hEd⟩:=hst.rh.drew;have hstd:=hst.ext hRd hEd;unfold rn at h;simp only at h;split at h
 .rename_i hstat
  obtain ⟨hback,huniq,hlooks⟩:=wK hstat;generalize hev:aS P sf fi ops H.n ops.toList 0 (di ops.toList []) ⟨T,{ H with n:=H.n+iR P ops },[],[],[]⟩ none=R at h;have hne:R≠ .fail:=by rintro rfl;cases h
  obtain ⟨S,C,hS0,hTr⟩:=LK hev hne;have W:iq P sf fi ops H.n T { H with n:=H.n+iR P ops } S C R:=⟨hTr,hS0,hback,huniq,hlooks⟩;have key:wpAnyIn (FO Γ ro) 0 P .any ops (iw Γ H w fi r) ops.size (Array.replicate ops.size false) a w.drew:=by
   obtain ⟨q, -,q2,q3,q4⟩:=Q8 (P:=P) (fi:=fi) (ops:=ops) (S:=S) (C:=C) 0 (Nat.zero_le _);have hSq:(S q).H={ H with n:=H.n+iR P ops }:=by
    rw [W.zY q 0 (Nat.zero_le _) q2 fun x h1 h2 h3=>q3 x h1 h2 (.inl h3),hS0]
   have hR0:Rh Γ { H with n:=H.n+iR P ops } w.drew:=⟨fun b hb=>by have:=hRd.aT b hb;grind,by have:=hRd.ro;grind,hRd.cq,hRd.live,hRd.inj,hRd.obj⟩;refine W.any (D:=D) (H0:=H) (w0:=w.drew) (Γ0:=Γ) Sd hng hRd hro ?_ ?_ ops.size _ (fun _=>False) Γ a w.drew q (by simp) (by have:=List.countP_le_length (p:=fun b=> !b) (l:=(Array.replicate ops.size false).toList);grind) (fun i hi=>by simp [hi]) ⟨fun x h=>h.elim,fun x j h _=>h.elim⟩ ?_
   .-- the end
    intro L Γ1 a1 w1 q1 hL I hall;have hC:C=ops.size:=by
     rcases Nat.lt_or_ge C ops.size with h' |h'
     .exact absurd (hL.ok C (hall C h')) gh
     .have:=hTr.Vd;omega
    have hq:q1=ops.size:=by
     rcases Nat.lt_or_ge q1 ops.size with h' |h'
     .exact absurd (hall q1 h') (I.at_ h').2
     .have:=I.T4;omega
    subst hq;rw [hTr.fin hC] at h;cases h;have hl:∀ p∈(S ops.size).bq,pq P fi ops S C L p.1/\p.2=qe P sf fi ops H.n S p.1:=by
     rintro ⟨f,ob⟩ hp;obtain ⟨g1,g2,g3,g4⟩:=(W.bq ops.size (zal _) f ob).1 hp;exact ⟨⟨hall f g1,g2,fun x hx _=>g4 x hx.1.1 hx⟩,g3⟩
    obtain ⟨ha,hrh⟩:=I.apart hl;have hgg:=I.gg.aq hRd ha;refine iw.after hEd ⟨Γ1.fill H.n (iR P ops),.normal,⟨hrh.fill hgg.Cd,?_,I.df.mono (Γ1.mC _ _) (.refl _)⟩,hgg.fill⟩;refine ⟨I.len,fun t=>?_⟩;have htl:tl fi ops S T L t=ft fi (S ops.size).T t:=by
     unfold tl;split
     .rfl
     .rename_i hno
      rw [W.Ah ops.size 0 (Nat.zero_le _) (zal _) (fun x _ hx e=>hno ⟨x,hall x hx,e⟩),hS0]
    have:=I.tm t;rw [htl] at this;exact this.mono (Γ1.mC _ _) (.refl _)
   .-- a panic
    intro L Γ1 a1 w1 q1 hL I v Hp hR Γ2 w2 v' hv hr2 hgg hvr hdf;subst hR;cases h;refine iw.after hEd ⟨Γ2.fill H.n (iR P ops),.panic (hv.mono (Γ2.mC _ _) (.refl _)),⟨hr2.fill hgg.Cd,?_,hdf.mono (Γ2.mC _ _) (.refl _)⟩,hgg.fill⟩;refine ⟨I.len,fun t=>?_⟩;rcases wE (fi:=fi) ops.toList T t with h1 |⟨h1,h2⟩
    .simp only [h1];exact .aO _
    .have htl:tl fi ops S T L t=ft fi T t:=by
      unfold tl;rw [if_neg];rintro ⟨j,hj,hd⟩;refine h2 (oo ops j) ?_ hd;have:=gO (hL.ok j hj).1;simpa using Array.mem_of_getElem? this
     have:=I.tm t;rw [htl] at this;simp only [h1];exact (hvr _ _ this).mono (Γ2.mC _ _) (.refl _)
   .refine ⟨q2,fun x hx hc=>absurd hc (q3 x (Nat.zero_le _) hx),fun hq=>⟨q4 hq,fun x=>x⟩,by grind,?_,?_,?_,hstd.defs,fun f hf=>hf.1.elim,fun f f' hf=>hf.1.elim⟩
    .rw [hSq]
     refine ⟨rfl,zal _,fun _ _=>rfl,fun i=>⟨.inl,?_⟩,zal _,rfl,rfl,rfl,.refl _,fun _ _ _=>rfl,fun _ _ x=>x,fun _ _ o x=>⟨o,x⟩⟩
     grind
    .exact hst.tmps.size
    .intro t
     unfold tl;rw [if_neg (by grind)];exact hstd.tmps.get t
  exact key
 .cases h
end Go.Iv
