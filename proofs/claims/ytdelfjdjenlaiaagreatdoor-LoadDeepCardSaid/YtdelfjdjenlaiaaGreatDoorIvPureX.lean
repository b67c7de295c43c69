/- Operations that ask nothing of the heap, or leave it as it is. -/
import Derived.Test.YtdelfjdjenlaiaaGreatDoorIvCode
set_option linter.unusedSimpArgs false
set_option linter.unusedVariables false
namespace Go.Iv
open Go
variable {P:Program} {H H':IH} {res:ag}
def oF (f:IH->Option ag):Prop:=∀ H res,f H=some res->∃ v,res= .val v H/\∀ H2,f H2=some (.val v H2)
theorem Iq (c a b:Value):oF fun H=>lS H c a b:=by
 intro H res h;simp only [lS] at h ⊢;split at h
 ·cases h;exact ⟨_,rfl,fun _=>rfl⟩
 ·cases h
theorem vJ (x:Value):oF fun H=>ek H x:=by
 intro H res h;simp only [ek] at h ⊢;split at h
 ·cases h;exact ⟨_,rfl,fun _=>rfl⟩
 ·cases h;exact ⟨_,rfl,fun _=>rfl⟩
 ·cases h;exact ⟨_,rfl,fun _=>rfl⟩
 ·cases h
theorem Se (op:UnOp) (a:Value):oF fun H=>EG P H op a:=by
 intro H res h;simp only [EG] at h ⊢;split at h
 ·split at h
  ·cases h;exact ⟨_,rfl,fun _=>rfl⟩
  ·cases h
 ·split at h
  ·rename_i hr
   split at h
   ·rename_i hf;cases h;exact ⟨_,rfl,fun _=>by simp [hf]⟩
   ·cases h
  ·cases h
 ·cases h
theorem uw (s:TypeId) (x:Value) (f:Nat):oF fun H=>cD P H s x f:=by
 intro H res h;simp only [cD] at h ⊢;split at h
 ·rename_i hu
  split at h
  ·rename_i hf
   split at h
   ·rename_i hi
    split at h
    ·cases h
    ·rename_i hz;cases h;exact ⟨_,rfl,fun _=>by simp [hz]⟩
   ·cases h
  ·cases h
 ·cases h
theorem sc (o:Option Value):oF fun H=>valOf H o:=by
 intro H res h;simp only [valOf] at h ⊢;split at h
 ·cases h;exact ⟨_,rfl,fun _=>rfl⟩
 ·cases h
theorem DP (t:TypeId) (x:Value) (f:Nat):oF fun H=>je P H t x f:=by
 intro H res h;simp only [je] at h ⊢;split at h
 ·rename_i hu
  split at h
  ·rename_i hf
   obtain ⟨v,h1,h2⟩:=sc _ H res h;exact ⟨v,h1,fun H2=>by have:=h2 H2;simp_all⟩
  ·cases h
 ·cases h
theorem ud (t:TypeId) (x ix:Value):oF fun H=>br P H t x ix:=by
 intro H res h;simp only [br] at h ⊢;split at h
 ·rename_i hu
  split at h
  ·rename_i hi
   split at h
   ·rename_i hz;cases h;exact ⟨_,rfl,fun _=>by simp only [hz,if_true]⟩
   ·cases h
  ·cases h
 ·rename_i hu
  split at h
  ·rename_i hi
   split at h
   ·rename_i hz;cases h;exact ⟨_,rfl,fun _=>by simp only [hz,if_true]⟩
   ·cases h
  ·cases h
 ·cases h
theorem D8 (t:TypeId) (x ix:Value):oF fun H=>ig P H t x ix:=by
 intro H res h;simp only [ig] at h ⊢;split at h
 ·rename_i hu
  split at h
  ·rename_i hz
   split at h
   ·rename_i hc;cases h;exact ⟨_,rfl,fun _=>by simp only [hz,if_true]⟩
   ·cases h
  ·cases h
 ·rename_i hu
  split at h
  ·rename_i hz
   split at h
   ·rename_i hi
    obtain ⟨v,h1,h2⟩:=sc _ H res h;exact ⟨v,h1,fun H2=>by simp only [hz,if_true];exact h2 H2⟩
   ·cases h
  ·cases h
 ·cases h
theorem zn (x:Value) (i:Nat):oF fun H=>fp H x i:=by
 intro H res h;simp only [fp] at h ⊢;split at h
 ·exact sc _ H res h
 ·cases h
theorem uC (t:TypeId) (v:Value):oF fun H=>dM P H t v:=by
 intro H res h;simp only [dM] at h ⊢;split at h
 ·cases h
 ·rename_i hu hn;cases h;exact ⟨_,rfl,fun _=>by simp only⟩
 ·cases h
theorem F0 (t:TypeId) (ps:List (Nat×Value)):oF fun H=>hZ P H t ps:=by
 intro H res h;simp only [hZ] at h ⊢;split at h
 ·rename_i hok
  split at h
  ·rename_i hz
   split at h
   ·rename_i hu
    split at h
    ·rename_i hp
     split at h
     ·rename_i hf;cases h;exact ⟨_,rfl,fun _=>by simp only [hok,if_true]⟩
     ·cases h
    ·cases h
   ·rename_i hu
    split at h
    ·rename_i hp
     split at h
     ·rename_i hf;cases h;exact ⟨_,rfl,fun _=>by simp only [hok,if_true]⟩
     ·cases h
    ·cases h
   ·cases h
  ·cases h
 ·cases h
theorem sC (x:Value) (t:TypeId) (ok:Bool):oF fun H=>dm P H x t ok:=by
 intro H res h;simp only [dm] at h ⊢;split at h
 ·cases h
 ·rename_i hu hn
  split at h
  ·rename_i e
   cases h;exact ⟨_,rfl,fun _=>by simp_all⟩
  ·cases h
 ·cases h
theorem DN (t:TypeId) (x:Value) (lo hi mx:Option Value):oF fun H=>cV P H t x lo hi mx:=by
 intro H res h;simp only [cV] at h ⊢;split at h
 ·rename_i hu
  split at h
  ·rename_i hb
   split at h
   ·rename_i hl;cases h;exact ⟨_,rfl,fun _=>by simp only⟩
   ·cases h
  ·cases h
 ·rename_i hu
  split at h
  ·rename_i hi'
   split at h
   ·rename_i hs;cases h;exact ⟨_,rfl,fun _=>by simp only⟩
   ·cases h
  ·cases h
 ·rename_i hu
  split at h
  ·rename_i hi'
   split at h
   ·rename_i hn
    split at h
    ·rename_i hh
     split at h
     ·rename_i hl;cases h;exact ⟨_,rfl,fun _=>by simp only [hn,if_true]⟩
     ·cases h
    ·cases h
   ·cases h
  ·cases h
 ·cases h
theorem oT {sf:Self} {Z:Operand->Value} {o:Oper} (hk:kindOf P o= .pure):oF fun H=>aO P sf Z H o:=by
 intro H res h;simp only at h;have key:∀ (f:IH->Option ag),(∀ H,aO P sf Z H o=f H)->oF f->∃ v,res= .val v H/\∀ H2,aO P sf Z H2 o=some (.val v H2):=by
  intro f e hf;rw [e] at h;obtain ⟨v,h1,h2⟩:=hf H res h;exact ⟨v,h1,fun H2=>by rw [e];exact h2 H2⟩
 cases ho:o.op with
 |move x=>exact key (fun H=>some (.val (Z x) H)) (fun _=>by simp only [aO,ho]) (fun H r h=>by cases h;exact ⟨_,rfl,fun _=>rfl⟩)
 |assign x=>exact key (fun H=>some (.val (Z x) H)) (fun _=>by simp only [aO,ho]) (fun H r h=>by cases h;exact ⟨_,rfl,fun _=>rfl⟩)
 |pick c a b=>exact key _ (fun _=>by simp only [aO,ho]) (Iq (Z c) (Z a) (Z b))
 |nilCheck x=>exact key _ (fun _=>by simp only [aO,ho]) (vJ (Z x))
 |unOp op t x=>exact key _ (fun _=>by simp only [aO,ho]) (Se (P:=P) op (Z x))
 |fieldAddr s x f=>exact key _ (fun _=>by simp only [aO,ho]) (uw (P:=P) s (Z x) f)
 |field t x f=>exact key _ (fun _=>by simp only [aO,ho]) (DP (P:=P) t (Z x) f)
 |indexAddr t x ix=>exact key _ (fun _=>by simp only [aO,ho]) (ud (P:=P) t (Z x) (Z ix))
 |index t x ix=>exact key _ (fun _=>by simp only [aO,ho]) (D8 (P:=P) t (Z x) (Z ix))
 |extract x i=>exact key _ (fun _=>by simp only [aO,ho]) (zn (Z x) i)
 |slice t x lo hi mx=>exact key _ (fun _=>by simp only [aO,ho]) (DN (P:=P) t (Z x) (lo.map Z) (hi.map Z) (mx.map Z))
 |makeInterface t x=>exact key _ (fun _=>by simp only [aO,ho]) (uC (P:=P) t (Z x))
 |build t ps=>exact key _ (fun _=>by simp only [aO,ho]) (F0 (P:=P) t (ps.toList.map fun p=>(p.1,Z p.2)))
 |typeAssert x t asserted ok=>exact key _ (fun _=>by simp only [aO,ho]) (sC (P:=P) (Z x) asserted ok)
 |makeFunc fn first captured=>
  by_cases hp:eU fn=true
  ·exact key (fun H=>some (.val (.func fn ⟨first.toList.map Z⟩ ⟨captured.toList.map Z⟩) H)) (fun _=>by simp only [aO,ho,hp,if_true]) (fun H r h=>by cases h;exact ⟨_,rfl,fun _=>rfl⟩)
  ·simp only [aO,ho] at h
   rw [if_neg hp] at h;cases h
 |convert a b x=>
  simp only [kindOf,ho] at hk;split at hk<;>cases hk
 |call c=>
  obtain ⟨callee,args,ats⟩:=c;cases callee with
  |builtin b=>cases b<;>simp [kindOf,ho] at hk
  |value f=>simp [kindOf,ho] at hk
  |invoke r n=>simp [kindOf,ho] at hk
 |_=>simp [kindOf,ho] at hk
def nR (f:IH->Option ag):Prop:=∀ H v H1,f H=some (.val v H1)->H1=H
theorem D5 (t:TypeId) (a:Value):nR fun H=>dy P H t a:=by
 intro H v H1 h;simp only [dy] at h;split at h
 ·split at h
  ·cases h;rfl
  ·cases h
 ·cases h
theorem zg (t:TypeId) (x k:Value) (ok:Bool):nR fun H=>cU P H t x k ok:=by
 intro H v H1 h;simp only [cU] at h;split at h
 ·split at h
  ·split at h
   ·split at h
    ·cases h;rfl
    ·split at h
     ·cases h;rfl
     ·cases h
    ·cases h
   ·cases h
  ·cases h
 ·split at h
  ·split at h
   ·cases h;rfl
   ·cases h
  ·cases h
 ·cases h
theorem tL (neg:Bool) (t:TypeId) (x y:Operand) (a b:Value):nR fun H=>bT P H neg t x y a b:=by
 intro H v H1 h;simp only [bT] at h;split at h
 ·split at h
  ·cases h;rfl
  ·cases h
 ·cases h;rfl
 ·split at h
  ·cases h;rfl
  ·split at h
   ·split at h
    ·split at h
     ·cases h;rfl
     ·cases h
    ·cases h
   ·cases h
theorem IU (op:BinOp) (t:TypeId) (x y:Operand) (a b:Value):nR fun H=>aD P H op t x y a b:=by
 intro H v H1 h;simp only [aD] at h;split at h
 ·exact tL _ _ _ _ _ _ H v H1 h
 ·exact tL _ _ _ _ _ _ H v H1 h
 all_goals first
  |(
    split at h
    ·split at h
     ·cases h;rfl
     ·cases h
    ·cases h;rfl
    ·cases h)
  |(
    split at h
    ·split at h
     ·cases h;rfl
     ·cases h
    ·split at h
     ·cases h;rfl
     ·cases h
    ·cases h)
  |(
    split at h
    ·split at h
     ·cases h;rfl
     ·cases h
    ·cases h)
  |(
    split at h
    ·split at h
     ·split at h
      ·cases h;rfl
      ·cases h
     ·cases h
    ·cases h)
theorem lq (s:Sem Value):nR fun H=>cR P H s:=by
 intro H v H1 h;simp only [cR] at h;split at h
 ·split at h
  ·cases h;rfl
  ·cases h
 ·cases h
theorem uy (e:TypeId) (x:Value):nR fun H=>db P H e x:=by
 intro H v H1 h;simp only [db] at h;split at h
 ·cases h;rfl
 ·split at h
  ·cases h;rfl
  ·split at h
   ·split at h
    ·cases h;rfl
    ·cases h
   ·cases h
 ·cases h
theorem tY (t:TypeId) (x:Value):nR fun H=>dP P H t x:=by
 intro H v H1 h;simp only [dP] at h;split at h
 ·cases h;rfl
 ·split at h
  ·split at h
   ·cases h;rfl
   ·cases h
  ·cases h
 ·cases h
theorem qJ (t:TypeId) (x:Value):nR fun H=>cY P H t x:=by
 intro H v H1 h;simp only [cY] at h;split at h
 ·cases h;rfl
 ·split at h
  ·split at h
   ·cases h;rfl
   ·cases h
  ·cases h
 ·cases h
end Go.Iv
/- Operations that leave the heap as it is, or lay one new block (the second part). -/
namespace Go.Iv
open Go
variable {P:Program} {H H':IH} {res:ag}
theorem vX {src dst:TypeId} (h1:∀ e,¬ (P.underlying src=some .string/\P.underlying dst=some (.slice e))) (h2:∀ e e',¬ (P.underlying src=some (.slice e)/\P.underlying dst=some (.slice e'))) (x:Value):
  nR fun H=>bb P H src dst x:=by
 intro H v H1 h;simp only [bb] at h;split at h
 ·split at h
  ·cases h;rfl
  ·cases h
 ·split at h
  ·cases h;rfl
  ·cases h
 ·split at h
  ·cases h;rfl
  ·cases h
 ·rename_i hs hd;exact absurd ⟨hs,hd⟩ (h1 _)
 ·rename_i hs hd;exact absurd ⟨hs,hd⟩ (h2 _ _)
 ·exact uy _ _ H v H1 h
 ·exact tY _ _ H v H1 h
 ·exact qJ _ _ H v H1 h
 ·cases h
theorem AA {sf:Self} {Z:Operand->Value} {o:Oper} (hk:kindOf P o= .read):nR fun H=>aO P sf Z H o:=by
 intro H v H1 h;simp only at h;cases ho:o.op with
 |load t a=>simp only [aO,ho] at h;exact D5 _ _ H v H1 h
 |lookup t x k ok=>simp only [aO,ho] at h;exact zg _ _ _ _ H v H1 h
 |binOp op t x y yt=>simp only [aO,ho] at h;exact IU _ _ _ _ _ _ H v H1 h
 |convert src dst x=>
  simp only [aO,ho] at h;refine vX (fun e he=>?_) (fun e e' he=>?_) _ H v H1 h
  ·simp only [kindOf,ho,he.1,he.2] at hk;cases hk
  ·simp only [kindOf,ho,he.1,he.2] at hk;cases hk
 |call c=>
  obtain ⟨callee,args,ats⟩:=c;cases callee with
  |builtin b=>
   simp only [aO,ho,da] at h;unfold bk at h;split at h
   ·simp [kindOf,ho] at hk
   ·split at h
    ·unfold valOf at h;split at h
     ·cases h;rfl
     ·cases h
    ·cases h
   ·split at h
    ·split at h
     ·split at h
      ·cases h
      ·cases h;rfl
     ·cases h
    ·cases h
   ·simp [kindOf,ho] at hk
   ·split at h
    ·exact lq _ H v H1 h
    ·cases h
   ·split at h
    ·exact lq _ H v H1 h
    ·cases h
   ·cases h;rfl
   ·split at h
    ·cases h
    ·cases h;rfl
   ·simp [kindOf,ho] at hk
   ·cases h
  |value f=>simp [kindOf,ho] at hk
  |invoke r n=>simp [kindOf,ho] at hk
 |_=>simp [kindOf,ho] at hk
theorem zl {o:Oper} (hk:kindOf P o≠ .chain):eu o=true/\∀ c,o.op≠ .defer c:=by
 cases ho:o.op with
 |call c=>
  obtain ⟨callee,args,ats⟩:=c;cases callee with
  |builtin b=>exact ⟨by simp [eu,ho],fun c e=>by cases e⟩
  |value f=>exact absurd (by simp [kindOf,ho]) hk
  |invoke r n=>exact absurd (by simp [kindOf,ho]) hk
 |defer c=>exact absurd (by simp [kindOf,ho]) hk
 |_=>exact ⟨by simp [eu,ho],fun c e=>by cases e⟩
inductive Ss:(Nat->Value)->Prop
 |ptr:Ss ptrTo
 |slice (l c:Nat):Ss fun n=> .slice (some ⟨n,0,none⟩) l c
 |map:Ss fun n=> .map (some n)
def kO (f:IH->Option ag):Prop:=∀ H v H1,f H=some (.val v H1)->∃ vf ob,Ss vf/\∀ H2,f H2=some (.val (vf H2.n) (H2.new ob))
theorem tZ (e:TypeId) (s:ByteArray):kO fun H=>fk P H e s:=by
 intro H v H1 h;simp only at h;unfold fk at h;split at h
 ·rename_i hu
  exact ⟨_,.cells ((bl s).map fun c=> .int .u8 c.toNat) e 0 false true,.slice s.size (eE+1),fun H2=>by simp only [fk,hu]⟩
 ·cases h
theorem zi (e:TypeId):kO fun H=>fC P H e:=by
 intro H v H1 h;simp only at h;unfold fC at h;split at h
 ·rename_i z hz
  exact ⟨_,.cells z.cells.toList e 0 true false,.ptr,fun H2=>by simp only [fC,bI,hz]⟩
 ·cases h
theorem FY (e:TypeId) (v:Value):kO fun H=>nD H e v:=by
 intro H v1 H1 h;simp only at h;unfold nD at h;split at h
 ·rename_i hz
  exact ⟨_,.cells v.cells.toList e 0 true false,.ptr,fun H2=>by simp only [nD,bI,hz,if_true]⟩
 ·cases h
theorem og (t:TypeId) (len:Nat) (ps:List (Nat×Value)):kO fun H=>aW P H t len ps:=by
 intro H v H1 h;simp only at h;unfold aW at h;split at h
 ·rename_i e i he
  split at h
  ·rename_i hc
   split at h
   ·rename_i z hz
    split at h
    ·rename_i hs
     split at h
     ·rename_i cells hf
      exact ⟨_,.cells cells.toList e 0 true false,.slice len len,fun H2=>by simp only [aW,bI,he,hc,if_true,hz,hs,hf]⟩
     ·cases h
    ·cases h
   ·cases h
  ·cases h
 ·cases h
theorem pc (t:TypeId) (l c:Value):kO fun H=>bg P H t l c:=by
 intro H v H1 h;simp only at h;unfold bg at h;split at h
 ·rename_i e i l c he
  split at h
  ·rename_i hc
   split at h
   ·rename_i z hz
    split at h
    ·rename_i hs
     exact ⟨_,.cells (dx z.cells.toList c.toNat) e 0 true false,.slice l.toNat c.toNat,fun H2=>by simp only [bg,bI,he,hc,if_true,hz,hs]⟩
    ·cases h
   ·cases h
  ·cases h
 ·cases h
theorem uQ (t:TypeId) (r:Option Value):kO fun H=>cj P H t r:=by
 intro H v H1 h;simp only at h;unfold cj at h;split at h
 ·exact ⟨_,.map [] 0,.map,fun H2=>rfl⟩
 ·split at h
  ·rename_i hu
   exact ⟨_,.map [] 0,.map,fun H2=>by simp only [cj,hu]⟩
  ·cases h
theorem NU {sf:Self} {Z:Operand->Value} {o:Oper} (hk:kindOf P o= .fresh):kO fun H=>aO P sf Z H o:=by
 have key:∀ (f:IH->Option ag),(∀ H,aO P sf Z H o=f H)->kO f->kO fun H=>aO P sf Z H o:=by
  intro f e hf H v H1 h;simp only [e] at h ⊢;exact hf H v H1 h
 cases ho:o.op with
 |alloc e=>exact key _ (fun _=>by simp only [aO,ho]) (zi (P:=P) e)
 |box e x=>exact key _ (fun _=>by simp only [aO,ho]) (FY e (Z x))
 |buildSlice t len ps=>exact key _ (fun _=>by simp only [aO,ho]) (og (P:=P) t len (ps.toList.map fun p=>(p.1,Z p.2)))
 |makeSlice t l c=>exact key _ (fun _=>by simp only [aO,ho]) (pc (P:=P) t (Z l) (Z c))
 |makeMap t r=>exact key _ (fun _=>by simp only [aO,ho]) (uQ (P:=P) t (r.map Z))
 |convert src dst x=>
  simp only [kindOf,ho] at hk;split at hk
  ·rename_i e hs hd
   intro H v H1 h;simp only [aO,ho,bb,hs,hd] at h ⊢;split at h
   ·rename_i s hx
    obtain ⟨vf,ob,h1,h2⟩:=tZ (P:=P) e s H v H1 h;exact ⟨vf,ob,h1,h2⟩
   ·cases h
  ·cases hk
  ·cases hk
 |call c=>
  obtain ⟨callee,args,ats⟩:=c;cases callee with
  |builtin b=>cases b<;>simp [kindOf,ho] at hk
  |value f=>simp [kindOf,ho] at hk
  |invoke r n=>simp [kindOf,ho] at hk
 |_=>simp [kindOf,ho] at hk
end Go.Iv
