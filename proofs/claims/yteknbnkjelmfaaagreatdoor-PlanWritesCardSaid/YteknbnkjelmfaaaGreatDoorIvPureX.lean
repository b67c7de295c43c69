/- Operations that ask nothing of the heap, or leave it as it is. -/
import Derived.Test.YteknbnkjelmfaaaGreatDoorIvCode
set_option linter.unusedSimpArgs false
set_option linter.unusedVariables false
namespace Go.Iv
open Go
variable {P:Program} {H H':IH} {res:ag}
def oC (f:IH->Option ag):Prop:=∀ H res,f H=some res->∃ v,res= .val v H/\∀ H2,f H2=some (.val v H2)
theorem HV (c a b:Value):oC fun H=>lS H c a b:=by
 intro H res h;simp only [lS] at h ⊢;split at h
 ·cases h;exact ⟨_,rfl,fun _=>rfl⟩
 ·cases h
theorem vP (x:Value):oC fun H=>dS H x:=by
 intro H res h;simp only [dS] at h ⊢;split at h
 ·cases h;exact ⟨_,rfl,fun _=>rfl⟩
 ·cases h;exact ⟨_,rfl,fun _=>rfl⟩
 ·cases h;exact ⟨_,rfl,fun _=>rfl⟩
 ·cases h
theorem Oc (op:UnOp) (a:Value):oC fun H=>GF P H op a:=by
 intro H res h;simp only [GF] at h ⊢;split at h
 ·split at h
  ·cases h;exact ⟨_,rfl,fun _=>rfl⟩
  ·cases h
 ·split at h
  ·rename_i hr
   split at h
   ·rename_i hf;cases h;exact ⟨_,rfl,fun _=>by simp [hf]⟩
   ·cases h
  ·cases h
 ·cases h
theorem uZ (s:TypeId) (x:Value) (f:Nat):oC fun H=>cg P H s x f:=by
 intro H res h;simp only [cg] at h ⊢;split at h
 ·rename_i hu
  split at h
  ·rename_i hf
   split at h
   ·rename_i hi
    split at h
    ·cases h
    ·rename_i hz;cases h;exact ⟨_,rfl,fun _=>by simp [hz]⟩
   ·cases h
  ·cases h
 ·cases h
theorem sv (o:Option Value):oC fun H=>valOf H o:=by
 intro H res h;simp only [valOf] at h ⊢;split at h
 ·cases h;exact ⟨_,rfl,fun _=>rfl⟩
 ·cases h
theorem Ej (t:TypeId) (x:Value) (f:Nat):oC fun H=>iY P H t x f:=by
 intro H res h;simp only [iY] at h ⊢;split at h
 ·rename_i hu
  split at h
  ·rename_i hf
   obtain ⟨v,h1,h2⟩:=sv _ H res h;exact ⟨v,h1,fun H2=>by have:=h2 H2;simp_all⟩
  ·cases h
 ·cases h
theorem uO (t:TypeId) (x ix:Value):oC fun H=>bt P H t x ix:=by
 intro H res h;simp only [bt] at h ⊢;split at h
 ·rename_i hu
  split at h
  ·rename_i hi
   split at h
   ·rename_i hz;cases h;exact ⟨_,rfl,fun _=>by simp only [hz,if_true]⟩
   ·cases h
  ·cases h
 ·rename_i hu
  split at h
  ·rename_i hi
   split at h
   ·rename_i hz;cases h;exact ⟨_,rfl,fun _=>by simp only [hz,if_true]⟩
   ·cases h
  ·cases h
 ·cases h
theorem G8 (t:TypeId) (x ix:Value):oC fun H=>gR P H t x ix:=by
 intro H res h;simp only [gR] at h ⊢;split at h
 ·rename_i hu
  split at h
  ·rename_i hz
   split at h
   ·rename_i hc;cases h;exact ⟨_,rfl,fun _=>by simp only [hz,if_true]⟩
   ·cases h
  ·cases h
 ·rename_i hu
  split at h
  ·rename_i hz
   split at h
   ·rename_i hi
    obtain ⟨v,h1,h2⟩:=sv _ H res h;exact ⟨v,h1,fun H2=>by simp only [hz,if_true];exact h2 H2⟩
   ·cases h
  ·cases h
 ·cases h
theorem zo (x:Value) (i:Nat):oC fun H=>eW H x i:=by
 intro H res h;simp only [eW] at h ⊢;split at h
 ·exact sv _ H res h
 ·cases h
theorem uM (t:TypeId) (v:Value):oC fun H=>eT P H t v:=by
 intro H res h;simp only [eT] at h ⊢;split at h
 ·cases h
 ·rename_i hu hn;cases h;exact ⟨_,rfl,fun _=>by simp only⟩
 ·cases h
theorem Er (t:TypeId) (ps:List (Nat×Value)):oC fun H=>gU P H t ps:=by
 intro H res h;simp only [gU] at h ⊢;split at h
 ·rename_i hok
  split at h
  ·rename_i hz
   split at h
   ·rename_i hu
    split at h
    ·rename_i hp
     split at h
     ·rename_i hf;cases h;exact ⟨_,rfl,fun _=>by simp only [hok,if_true]⟩
     ·cases h
    ·cases h
   ·rename_i hu
    split at h
    ·rename_i hp
     split at h
     ·rename_i hf;cases h;exact ⟨_,rfl,fun _=>by simp only [hok,if_true]⟩
     ·cases h
    ·cases h
   ·cases h
  ·cases h
 ·cases h
theorem sw (x:Value) (t:TypeId) (ok:Bool):oC fun H=>eh P H x t ok:=by
 intro H res h;simp only [eh] at h ⊢;split at h
 ·cases h
 ·rename_i hu hn
  split at h
  ·rename_i e
   cases h;exact ⟨_,rfl,fun _=>by simp_all⟩
  ·cases h
 ·cases h
theorem Gg (t:TypeId) (x:Value) (lo hi mx:Option Value):oC fun H=>cI P H t x lo hi mx:=by
 intro H res h;simp only [cI] at h ⊢;split at h
 ·rename_i hu
  split at h
  ·rename_i hb
   split at h
   ·rename_i hl;cases h;exact ⟨_,rfl,fun _=>by simp only⟩
   ·cases h
  ·cases h
 ·rename_i hu
  split at h
  ·rename_i hi'
   split at h
   ·rename_i hs;cases h;exact ⟨_,rfl,fun _=>by simp only⟩
   ·cases h
  ·cases h
 ·rename_i hu
  split at h
  ·rename_i hi'
   split at h
   ·rename_i hn
    split at h
    ·rename_i hh
     split at h
     ·rename_i hl;cases h;exact ⟨_,rfl,fun _=>by simp only [hn,if_true]⟩
     ·cases h
    ·cases h
   ·cases h
  ·cases h
 ·cases h
theorem pV {sf:Self} {Z:Operand->Value} {o:Oper} (hk:kindOf P o= .pure):oC fun H=>aP P sf Z H o:=by
 intro H res h;simp only at h;have key:∀ (f:IH->Option ag),(∀ H,aP P sf Z H o=f H)->oC f->∃ v,res= .val v H/\∀ H2,aP P sf Z H2 o=some (.val v H2):=by
  intro f e hf;rw [e] at h;obtain ⟨v,h1,h2⟩:=hf H res h;exact ⟨v,h1,fun H2=>by rw [e];exact h2 H2⟩
 cases ho:o.op with
 |move x=>exact key (fun H=>some (.val (Z x) H)) (fun _=>by simp only [aP,ho]) (fun H r h=>by cases h;exact ⟨_,rfl,fun _=>rfl⟩)
 |assign x=>exact key (fun H=>some (.val (Z x) H)) (fun _=>by simp only [aP,ho]) (fun H r h=>by cases h;exact ⟨_,rfl,fun _=>rfl⟩)
 |pick c a b=>exact key _ (fun _=>by simp only [aP,ho]) (HV (Z c) (Z a) (Z b))
 |nilCheck x=>exact key _ (fun _=>by simp only [aP,ho]) (vP (Z x))
 |unOp op t x=>exact key _ (fun _=>by simp only [aP,ho]) (Oc (P:=P) op (Z x))
 |fieldAddr s x f=>exact key _ (fun _=>by simp only [aP,ho]) (uZ (P:=P) s (Z x) f)
 |field t x f=>exact key _ (fun _=>by simp only [aP,ho]) (Ej (P:=P) t (Z x) f)
 |indexAddr t x ix=>exact key _ (fun _=>by simp only [aP,ho]) (uO (P:=P) t (Z x) (Z ix))
 |index t x ix=>exact key _ (fun _=>by simp only [aP,ho]) (G8 (P:=P) t (Z x) (Z ix))
 |extract x i=>exact key _ (fun _=>by simp only [aP,ho]) (zo (Z x) i)
 |slice t x lo hi mx=>exact key _ (fun _=>by simp only [aP,ho]) (Gg (P:=P) t (Z x) (lo.map Z) (hi.map Z) (mx.map Z))
 |makeInterface t x=>exact key _ (fun _=>by simp only [aP,ho]) (uM (P:=P) t (Z x))
 |build t ps=>exact key _ (fun _=>by simp only [aP,ho]) (Er (P:=P) t (ps.toList.map fun p=>(p.1,Z p.2)))
 |typeAssert x t asserted ok=>exact key _ (fun _=>by simp only [aP,ho]) (sw (P:=P) (Z x) asserted ok)
 |makeFunc fn first captured=>
  by_cases hp:fp fn=true
  ·exact key (fun H=>some (.val (.func fn ⟨first.toList.map Z⟩ ⟨captured.toList.map Z⟩) H)) (fun _=>by simp only [aP,ho,hp,if_true]) (fun H r h=>by cases h;exact ⟨_,rfl,fun _=>rfl⟩)
  ·simp only [aP,ho] at h
   rw [if_neg hp] at h;cases h
 |convert a b x=>
  simp only [kindOf,ho] at hk;split at hk<;>cases hk
 |call c=>
  obtain ⟨callee,args,ats⟩:=c;cases callee with
  |builtin b=>cases b<;>simp [kindOf,ho] at hk
  |value f=>simp [kindOf,ho] at hk
  |invoke r n=>simp [kindOf,ho] at hk
 |_=>simp [kindOf,ho] at hk
def nO (f:IH->Option ag):Prop:=∀ H v H1,f H=some (.val v H1)->H1=H
theorem HJ (t:TypeId) (a:Value):nO fun H=>dZ P H t a:=by
 intro H v H1 h;simp only [dZ] at h;split at h
 ·split at h
  ·cases h;rfl
  ·cases h
 ·cases h
theorem zO (t:TypeId) (x k:Value) (ok:Bool):nO fun H=>cA P H t x k ok:=by
 intro H v H1 h;simp only [cA] at h;split at h
 ·split at h
  ·split at h
   ·split at h
    ·cases h;rfl
    ·split at h
     ·cases h;rfl
     ·cases h
    ·cases h
   ·cases h
  ·cases h
 ·split at h
  ·split at h
   ·cases h;rfl
   ·cases h
  ·cases h
 ·cases h
theorem tQ (neg:Bool) (t:TypeId) (x y:Operand) (a b:Value):nO fun H=>bR P H neg t x y a b:=by
 intro H v H1 h;simp only [bR] at h;split at h
 ·split at h
  ·cases h;rfl
  ·cases h
 ·cases h;rfl
 ·split at h
  ·cases h;rfl
  ·split at h
   ·split at h
    ·split at h
     ·cases h;rfl
     ·cases h
    ·cases h
   ·cases h
theorem Iz (op:BinOp) (t:TypeId) (x y:Operand) (a b:Value):nO fun H=>aD P H op t x y a b:=by
 intro H v H1 h;simp only [aD] at h;split at h
 ·exact tQ _ _ _ _ _ _ H v H1 h
 ·exact tQ _ _ _ _ _ _ H v H1 h
 all_goals first
  |(
    split at h
    ·split at h
     ·cases h;rfl
     ·cases h
    ·cases h;rfl
    ·cases h)
  |(
    split at h
    ·split at h
     ·cases h;rfl
     ·cases h
    ·split at h
     ·cases h;rfl
     ·cases h
    ·cases h)
  |(
    split at h
    ·split at h
     ·cases h;rfl
     ·cases h
    ·cases h)
  |(
    split at h
    ·split at h
     ·split at h
      ·cases h;rfl
      ·cases h
     ·cases h
    ·cases h)
theorem ld (s:Sem Value):nO fun H=>cu P H s:=by
 intro H v H1 h;simp only [cu] at h;split at h
 ·split at h
  ·cases h;rfl
  ·cases h
 ·cases h
theorem uQ (e:TypeId) (x:Value):nO fun H=>cP P H e x:=by
 intro H v H1 h;simp only [cP] at h;split at h
 ·cases h;rfl
 ·split at h
  ·cases h;rfl
  ·split at h
   ·split at h
    ·cases h;rfl
    ·cases h
   ·cases h
 ·cases h
theorem vj (t:TypeId) (x:Value):nO fun H=>dy P H t x:=by
 intro H v H1 h;simp only [dy] at h;split at h
 ·cases h;rfl
 ·split at h
  ·split at h
   ·cases h;rfl
   ·cases h
  ·cases h
 ·cases h
theorem oX (t:TypeId) (x:Value):nO fun H=>cH P H t x:=by
 intro H v H1 h;simp only [cH] at h;split at h
 ·cases h;rfl
 ·split at h
  ·split at h
   ·cases h;rfl
   ·cases h
  ·cases h
 ·cases h
end Go.Iv
/- Operations that leave the heap as it is, or lay one new block (the second part). -/
namespace Go.Iv
open Go
variable {P:Program} {H H':IH} {res:ag}
theorem yv {src dst:TypeId} (h1:∀ e,¬ (P.underlying src=some .string/\P.underlying dst=some (.slice e))) (h2:∀ e e',¬ (P.underlying src=some (.slice e)/\P.underlying dst=some (.slice e'))) (x:Value):
  nO fun H=>bb P H src dst x:=by
 intro H v H1 h;simp only [bb] at h;split at h
 ·split at h
  ·cases h;rfl
  ·cases h
 ·split at h
  ·cases h;rfl
  ·cases h
 ·split at h
  ·cases h;rfl
  ·cases h
 ·rename_i hs hd;exact absurd ⟨hs,hd⟩ (h1 _)
 ·rename_i hs hd;exact absurd ⟨hs,hd⟩ (h2 _ _)
 ·exact uQ _ _ H v H1 h
 ·exact vj _ _ H v H1 h
 ·exact oX _ _ H v H1 h
 ·cases h
theorem BV {sf:Self} {Z:Operand->Value} {o:Oper} (hk:kindOf P o= .read):nO fun H=>aP P sf Z H o:=by
 intro H v H1 h;simp only at h;cases ho:o.op with
 |load t a=>simp only [aP,ho] at h;exact HJ _ _ H v H1 h
 |lookup t x k ok=>simp only [aP,ho] at h;exact zO _ _ _ _ H v H1 h
 |binOp op t x y yt=>simp only [aP,ho] at h;exact Iz _ _ _ _ _ _ H v H1 h
 |convert src dst x=>
  simp only [aP,ho] at h;refine yv (fun e he=>?_) (fun e e' he=>?_) _ H v H1 h
  ·simp only [kindOf,ho,he.1,he.2] at hk;cases hk
  ·simp only [kindOf,ho,he.1,he.2] at hk;cases hk
 |call c=>
  obtain ⟨callee,args,ats⟩:=c;cases callee with
  |builtin b=>
   simp only [aP,ho,cZ] at h;unfold bc at h;split at h
   ·simp [kindOf,ho] at hk
   ·split at h
    ·unfold valOf at h;split at h
     ·cases h;rfl
     ·cases h
    ·cases h
   ·split at h
    ·split at h
     ·split at h
      ·cases h
      ·cases h;rfl
     ·cases h
    ·cases h
   ·simp [kindOf,ho] at hk
   ·split at h
    ·exact ld _ H v H1 h
    ·cases h
   ·split at h
    ·exact ld _ H v H1 h
    ·cases h
   ·cases h;rfl
   ·split at h
    ·cases h
    ·cases h;rfl
   ·simp [kindOf,ho] at hk
   ·cases h
  |value f=>simp [kindOf,ho] at hk
  |invoke r n=>simp [kindOf,ho] at hk
 |_=>simp [kindOf,ho] at hk
theorem zE {o:Oper} (hk:kindOf P o≠ .chain):ej o=true/\∀ c,o.op≠ .defer c:=by
 cases ho:o.op with
 |call c=>
  obtain ⟨callee,args,ats⟩:=c;cases callee with
  |builtin b=>exact ⟨by simp [ej,ho],fun c e=>by cases e⟩
  |value f=>exact absurd (by simp [kindOf,ho]) hk
  |invoke r n=>exact absurd (by simp [kindOf,ho]) hk
 |defer c=>exact absurd (by simp [kindOf,ho]) hk
 |_=>exact ⟨by simp [ej,ho],fun c e=>by cases e⟩
inductive Ry:(Nat->Value)->Prop
 |ptr:Ry ptrTo
 |slice (l c:Nat):Ry fun n=> .slice (some ⟨n,0,none⟩) l c
 |map:Ry fun n=> .map (some n)
def ko (f:IH->Option ag):Prop:=∀ H v H1,f H=some (.val v H1)->∃ vf ob,Ry vf/\∀ H2,f H2=some (.val (vf H2.n) (H2.new ob))
theorem uX (e:TypeId) (s:ByteArray):ko fun H=>eS P H e s:=by
 intro H v H1 h;simp only at h;unfold eS at h;split at h
 ·rename_i hu
  exact ⟨_,.cells ((bl s).map fun c=> .int .u8 c.toNat) e 0 false true,.slice s.size (gz+1),fun H2=>by simp only [eS,hu]⟩
 ·cases h
theorem zF (e:TypeId):ko fun H=>fu P H e:=by
 intro H v H1 h;simp only at h;unfold fu at h;split at h
 ·rename_i z hz
  exact ⟨_,.cells z.cells.toList e 0 true false,.ptr,fun H2=>by simp only [fu,bJ,hz]⟩
 ·cases h
theorem Ff (e:TypeId) (v:Value):ko fun H=>nq H e v:=by
 intro H v1 H1 h;simp only at h;unfold nq at h;split at h
 ·rename_i hz
  exact ⟨_,.cells v.cells.toList e 0 true false,.ptr,fun H2=>by simp only [nq,bJ,hz,if_true]⟩
 ·cases h
theorem oL (t:TypeId) (len:Nat) (ps:List (Nat×Value)):ko fun H=>bg P H t len ps:=by
 intro H v H1 h;simp only at h;unfold bg at h;split at h
 ·rename_i e i he
  split at h
  ·rename_i hc
   split at h
   ·rename_i z hz
    split at h
    ·rename_i hs
     split at h
     ·rename_i cells hf
      exact ⟨_,.cells cells.toList e 0 true false,.slice len len,fun H2=>by simp only [bg,bJ,he,hc,if_true,hz,hs,hf]⟩
     ·cases h
    ·cases h
   ·cases h
  ·cases h
 ·cases h
theorem qO (t:TypeId) (l c:Value):ko fun H=>bz P H t l c:=by
 intro H v H1 h;simp only at h;unfold bz at h;split at h
 ·rename_i e i l c he
  split at h
  ·rename_i hc
   split at h
   ·rename_i z hz
    split at h
    ·rename_i hs
     exact ⟨_,.cells (dY z.cells.toList c.toNat) e 0 true false,.slice l.toNat c.toNat,fun H2=>by simp only [bz,bJ,he,hc,if_true,hz,hs]⟩
    ·cases h
   ·cases h
  ·cases h
 ·cases h
theorem uL (t:TypeId) (r:Option Value):ko fun H=>bS P H t r:=by
 intro H v H1 h;simp only at h;unfold bS at h;split at h
 ·exact ⟨_,.map [] 0,.map,fun H2=>rfl⟩
 ·split at h
  ·rename_i hu
   exact ⟨_,.map [] 0,.map,fun H2=>by simp only [bS,hu]⟩
  ·cases h
theorem MY {sf:Self} {Z:Operand->Value} {o:Oper} (hk:kindOf P o= .fresh):ko fun H=>aP P sf Z H o:=by
 have key:∀ (f:IH->Option ag),(∀ H,aP P sf Z H o=f H)->ko f->ko fun H=>aP P sf Z H o:=by
  intro f e hf H v H1 h;simp only [e] at h ⊢;exact hf H v H1 h
 cases ho:o.op with
 |alloc e=>exact key _ (fun _=>by simp only [aP,ho]) (zF (P:=P) e)
 |box e x=>exact key _ (fun _=>by simp only [aP,ho]) (Ff e (Z x))
 |buildSlice t len ps=>exact key _ (fun _=>by simp only [aP,ho]) (oL (P:=P) t len (ps.toList.map fun p=>(p.1,Z p.2)))
 |makeSlice t l c=>exact key _ (fun _=>by simp only [aP,ho]) (qO (P:=P) t (Z l) (Z c))
 |makeMap t r=>exact key _ (fun _=>by simp only [aP,ho]) (uL (P:=P) t (r.map Z))
 |convert src dst x=>
  simp only [kindOf,ho] at hk;split at hk
  ·rename_i e hs hd
   intro H v H1 h;simp only [aP,ho,bb,hs,hd] at h ⊢;split at h
   ·rename_i s hx
    obtain ⟨vf,ob,h1,h2⟩:=uX (P:=P) e s H v H1 h;exact ⟨vf,ob,h1,h2⟩
   ·cases h
  ·cases hk
  ·cases hk
 |call c=>
  obtain ⟨callee,args,ats⟩:=c;cases callee with
  |builtin b=>cases b<;>simp [kindOf,ho] at hk
  |value f=>simp [kindOf,ho] at hk
  |invoke r n=>simp [kindOf,ho] at hk
 |_=>simp [kindOf,ho] at hk
end Go.Iv
