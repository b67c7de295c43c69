/- Operations that ask nothing of the heap, or leave it as it is. -/
import Derived.Test.YtdelfjdjenlaiaaGreatDoorIvCode
set_option linter.unusedSimpArgs false
set_option linter.unusedVariables false
namespace Go.Iv
open Go
variable {P:Program} {H H':IH} {res:ag}
def oy (f:IH->Option ag):Prop:=∀ H res,f H=some res->∃ v,res= .val v H/\∀ H2,f H2=some (.val v H2)
theorem JL (c a b:Value):oy fun H=>mb H c a b:=by
 intro H res h;simp only [mb] at h ⊢;split at h
 ·cases h;exact ⟨_,rfl,fun _=>rfl⟩
 ·cases h
theorem yj (x:Value):oy fun H=>dZ H x:=by
 intro H res h;simp only [dZ] at h ⊢;split at h
 ·cases h;exact ⟨_,rfl,fun _=>rfl⟩
 ·cases h;exact ⟨_,rfl,fun _=>rfl⟩
 ·cases h;exact ⟨_,rfl,fun _=>rfl⟩
 ·cases h
theorem P5 (op:UnOp) (a:Value):oy fun H=>Fp P H op a:=by
 intro H res h;simp only [Fp] at h ⊢;split at h
 ·split at h
  ·cases h;exact ⟨_,rfl,fun _=>rfl⟩
  ·cases h
 ·split at h
  ·rename_i hr
   split at h
   ·rename_i hf;cases h;exact ⟨_,rfl,fun _=>by simp [hf]⟩
   ·cases h
  ·cases h
 ·cases h
theorem uf (s:TypeId) (x:Value) (f:Nat):oy fun H=>cA P H s x f:=by
 intro H res h;simp only [cA] at h ⊢;split at h
 ·rename_i hu
  split at h
  ·rename_i hf
   split at h
   ·rename_i hi
    split at h
    ·cases h
    ·rename_i hz;cases h;exact ⟨_,rfl,fun _=>by simp [hz]⟩
   ·cases h
  ·cases h
 ·cases h
theorem rM (o:Option Value):oy fun H=>valOf H o:=by
 intro H res h;simp only [valOf] at h ⊢;split at h
 ·cases h;exact ⟨_,rfl,fun _=>rfl⟩
 ·cases h
theorem Hg (t:TypeId) (x:Value) (f:Nat):oy fun H=>iZ P H t x f:=by
 intro H res h;simp only [iZ] at h ⊢;split at h
 ·rename_i hu
  split at h
  ·rename_i hf
   obtain ⟨v,h1,h2⟩:=rM _ H res h;exact ⟨v,h1,fun H2=>by have:=h2 H2;simp_all⟩
  ·cases h
 ·cases h
theorem uk (t:TypeId) (x ix:Value):oy fun H=>bt P H t x ix:=by
 intro H res h;simp only [bt] at h ⊢;split at h
 ·rename_i hu
  split at h
  ·rename_i hi
   split at h
   ·rename_i hz;cases h;exact ⟨_,rfl,fun _=>by simp only [hz,if_true]⟩
   ·cases h
  ·cases h
 ·rename_i hu
  split at h
  ·rename_i hi
   split at h
   ·rename_i hz;cases h;exact ⟨_,rfl,fun _=>by simp only [hz,if_true]⟩
   ·cases h
  ·cases h
 ·cases h
theorem GS (t:TypeId) (x ix:Value):oy fun H=>gY P H t x ix:=by
 intro H res h;simp only [gY] at h ⊢;split at h
 ·rename_i hu
  split at h
  ·rename_i hz
   split at h
   ·rename_i hc;cases h;exact ⟨_,rfl,fun _=>by simp only [hz,if_true]⟩
   ·cases h
  ·cases h
 ·rename_i hu
  split at h
  ·rename_i hz
   split at h
   ·rename_i hi
    obtain ⟨v,h1,h2⟩:=rM _ H res h;exact ⟨v,h1,fun H2=>by simp only [hz,if_true];exact h2 H2⟩
   ·cases h
  ·cases h
 ·cases h
theorem yW (x:Value) (i:Nat):oy fun H=>fk H x i:=by
 intro H res h;simp only [fk] at h ⊢;split at h
 ·exact rM _ H res h
 ·cases h
theorem um (t:TypeId) (v:Value):oy fun H=>dI P H t v:=by
 intro H res h;simp only [dI] at h ⊢;split at h
 ·cases h
 ·rename_i hu hn;cases h;exact ⟨_,rfl,fun _=>by simp only⟩
 ·cases h
theorem F3 (t:TypeId) (ps:List (Nat×Value)):oy fun H=>gZ P H t ps:=by
 intro H res h;simp only [gZ] at h ⊢;split at h
 ·rename_i hok
  split at h
  ·rename_i hz
   split at h
   ·rename_i hu
    split at h
    ·rename_i hp
     split at h
     ·rename_i hf;cases h;exact ⟨_,rfl,fun _=>by simp only [hok,if_true]⟩
     ·cases h
    ·cases h
   ·rename_i hu
    split at h
    ·rename_i hp
     split at h
     ·rename_i hf;cases h;exact ⟨_,rfl,fun _=>by simp only [hok,if_true]⟩
     ·cases h
    ·cases h
   ·cases h
  ·cases h
 ·cases h
theorem sb (x:Value) (t:TypeId) (ok:Bool):oy fun H=>dk P H x t ok:=by
 intro H res h;simp only [dk] at h ⊢;split at h
 ·cases h
 ·rename_i hu hn
  split at h
  ·rename_i e
   cases h;exact ⟨_,rfl,fun _=>by simp_all⟩
  ·cases h
 ·cases h
theorem G4 (t:TypeId) (x:Value) (lo hi mx:Option Value):oy fun H=>cR P H t x lo hi mx:=by
 intro H res h;simp only [cR] at h ⊢;split at h
 ·rename_i hu
  split at h
  ·rename_i hb
   split at h
   ·rename_i hl;cases h;exact ⟨_,rfl,fun _=>by simp only⟩
   ·cases h
  ·cases h
 ·rename_i hu
  split at h
  ·rename_i hi'
   split at h
   ·rename_i hs;cases h;exact ⟨_,rfl,fun _=>by simp only⟩
   ·cases h
  ·cases h
 ·rename_i hu
  split at h
  ·rename_i hi'
   split at h
   ·rename_i hn
    split at h
    ·rename_i hh
     split at h
     ·rename_i hl;cases h;exact ⟨_,rfl,fun _=>by simp only [hn,if_true]⟩
     ·cases h
    ·cases h
   ·cases h
  ·cases h
 ·cases h
theorem qh {sf:Self} {Z:Operand->Value} {o:Oper} (hk:kindOf P o= .pure):oy fun H=>aO P sf Z H o:=by
 intro H res h;simp only at h;have key:∀ (f:IH->Option ag),(∀ H,aO P sf Z H o=f H)->oy f->∃ v,res= .val v H/\∀ H2,aO P sf Z H2 o=some (.val v H2):=by
  intro f e hf;rw [e] at h;obtain ⟨v,h1,h2⟩:=hf H res h;exact ⟨v,h1,fun H2=>by rw [e];exact h2 H2⟩
 cases ho:o.op with
 |move x=>exact key (fun H=>some (.val (Z x) H)) (fun _=>by simp only [aO,ho]) (fun H r h=>by cases h;exact ⟨_,rfl,fun _=>rfl⟩)
 |assign x=>exact key (fun H=>some (.val (Z x) H)) (fun _=>by simp only [aO,ho]) (fun H r h=>by cases h;exact ⟨_,rfl,fun _=>rfl⟩)
 |pick c a b=>exact key _ (fun _=>by simp only [aO,ho]) (JL (Z c) (Z a) (Z b))
 |nilCheck x=>exact key _ (fun _=>by simp only [aO,ho]) (yj (Z x))
 |unOp op t x=>exact key _ (fun _=>by simp only [aO,ho]) (P5 (P:=P) op (Z x))
 |fieldAddr s x f=>exact key _ (fun _=>by simp only [aO,ho]) (uf (P:=P) s (Z x) f)
 |field t x f=>exact key _ (fun _=>by simp only [aO,ho]) (Hg (P:=P) t (Z x) f)
 |indexAddr t x ix=>exact key _ (fun _=>by simp only [aO,ho]) (uk (P:=P) t (Z x) (Z ix))
 |index t x ix=>exact key _ (fun _=>by simp only [aO,ho]) (GS (P:=P) t (Z x) (Z ix))
 |extract x i=>exact key _ (fun _=>by simp only [aO,ho]) (yW (Z x) i)
 |slice t x lo hi mx=>exact key _ (fun _=>by simp only [aO,ho]) (G4 (P:=P) t (Z x) (lo.map Z) (hi.map Z) (mx.map Z))
 |makeInterface t x=>exact key _ (fun _=>by simp only [aO,ho]) (um (P:=P) t (Z x))
 |build t ps=>exact key _ (fun _=>by simp only [aO,ho]) (F3 (P:=P) t (ps.toList.map fun p=>(p.1,Z p.2)))
 |typeAssert x t asserted ok=>exact key _ (fun _=>by simp only [aO,ho]) (sb (P:=P) (Z x) asserted ok)
 |makeFunc fn first captured=>
  by_cases hp:eS fn=true
  ·exact key (fun H=>some (.val (.func fn ⟨first.toList.map Z⟩ ⟨captured.toList.map Z⟩) H)) (fun _=>by simp only [aO,ho,hp,if_true]) (fun H r h=>by cases h;exact ⟨_,rfl,fun _=>rfl⟩)
  ·simp only [aO,ho] at h
   rw [if_neg hp] at h;cases h
 |convert a b x=>
  simp only [kindOf,ho] at hk;split at hk<;>cases hk
 |call c=>
  obtain ⟨callee,args,ats⟩:=c;cases callee with
  |builtin b=>cases b<;>simp [kindOf,ho] at hk
  |value f=>simp [kindOf,ho] at hk
  |invoke r n=>simp [kindOf,ho] at hk
 |_=>simp [kindOf,ho] at hk
def nv (f:IH->Option ag):Prop:=∀ H v H1,f H=some (.val v H1)->H1=H
theorem He (t:TypeId) (a:Value):nv fun H=>dq P H t a:=by
 intro H v H1 h;simp only [dq] at h;split at h
 ·split at h
  ·cases h;rfl
  ·cases h
 ·cases h
theorem yX (t:TypeId) (x k:Value) (ok:Bool):nv fun H=>cP P H t x k ok:=by
 intro H v H1 h;simp only [cP] at h;split at h
 ·split at h
  ·split at h
   ·split at h
    ·cases h;rfl
    ·split at h
     ·cases h;rfl
     ·cases h
    ·cases h
   ·cases h
  ·cases h
 ·split at h
  ·split at h
   ·cases h;rfl
   ·cases h
  ·cases h
 ·cases h
theorem tO (neg:Bool) (t:TypeId) (x y:Operand) (a b:Value):nv fun H=>bR P H neg t x y a b:=by
 intro H v H1 h;simp only [bR] at h;split at h
 ·split at h
  ·cases h;rfl
  ·cases h
 ·cases h;rfl
 ·split at h
  ·cases h;rfl
  ·split at h
   ·split at h
    ·split at h
     ·cases h;rfl
     ·cases h
    ·cases h
   ·cases h
theorem IB (op:BinOp) (t:TypeId) (x y:Operand) (a b:Value):nv fun H=>aD P H op t x y a b:=by
 intro H v H1 h;simp only [aD] at h;split at h
 ·exact tO _ _ _ _ _ _ H v H1 h
 ·exact tO _ _ _ _ _ _ H v H1 h
 all_goals first
  |(
    split at h
    ·split at h
     ·cases h;rfl
     ·cases h
    ·cases h;rfl
    ·cases h)
  |(
    split at h
    ·split at h
     ·cases h;rfl
     ·cases h
    ·split at h
     ·cases h;rfl
     ·cases h
    ·cases h)
  |(
    split at h
    ·split at h
     ·cases h;rfl
     ·cases h
    ·cases h)
  |(
    split at h
    ·split at h
     ·split at h
      ·cases h;rfl
      ·cases h
     ·cases h
    ·cases h)
theorem kY (s:Sem Value):nv fun H=>cK P H s:=by
 intro H v H1 h;simp only [cK] at h;split at h
 ·split at h
  ·cases h;rfl
  ·cases h
 ·cases h
theorem uH (e:TypeId) (x:Value):nv fun H=>da P H e x:=by
 intro H v H1 h;simp only [da] at h;split at h
 ·cases h;rfl
 ·split at h
  ·cases h;rfl
  ·split at h
   ·split at h
    ·cases h;rfl
    ·cases h
   ·cases h
 ·cases h
theorem uN (t:TypeId) (x:Value):nv fun H=>dL P H t x:=by
 intro H v H1 h;simp only [dL] at h;split at h
 ·cases h;rfl
 ·split at h
  ·split at h
   ·cases h;rfl
   ·cases h
  ·cases h
 ·cases h
theorem p9 (t:TypeId) (x:Value):nv fun H=>cQ P H t x:=by
 intro H v H1 h;simp only [cQ] at h;split at h
 ·cases h;rfl
 ·split at h
  ·split at h
   ·cases h;rfl
   ·cases h
  ·cases h
 ·cases h
end Go.Iv
/- Operations that leave the heap as it is, or lay one new block (the second part). -/
namespace Go.Iv
open Go
variable {P:Program} {H H':IH} {res:ag}
theorem yB {src dst:TypeId} (h1:∀ e,¬ (P.underlying src=some .string/\P.underlying dst=some (.slice e))) (h2:∀ e e',¬ (P.underlying src=some (.slice e)/\P.underlying dst=some (.slice e'))) (x:Value):
  nv fun H=>bb P H src dst x:=by
 intro H v H1 h;simp only [bb] at h;split at h
 ·split at h
  ·cases h;rfl
  ·cases h
 ·split at h
  ·cases h;rfl
  ·cases h
 ·split at h
  ·cases h;rfl
  ·cases h
 ·rename_i hs hd;exact absurd ⟨hs,hd⟩ (h1 _)
 ·rename_i hs hd;exact absurd ⟨hs,hd⟩ (h2 _ _)
 ·exact uH _ _ H v H1 h
 ·exact uN _ _ H v H1 h
 ·exact p9 _ _ H v H1 h
 ·cases h
theorem AF {sf:Self} {Z:Operand->Value} {o:Oper} (hk:kindOf P o= .read):nv fun H=>aO P sf Z H o:=by
 intro H v H1 h;simp only at h;cases ho:o.op with
 |load t a=>simp only [aO,ho] at h;exact He _ _ H v H1 h
 |lookup t x k ok=>simp only [aO,ho] at h;exact yX _ _ _ _ H v H1 h
 |binOp op t x y yt=>simp only [aO,ho] at h;exact IB _ _ _ _ _ _ H v H1 h
 |convert src dst x=>
  simp only [aO,ho] at h;refine yB (fun e he=>?_) (fun e e' he=>?_) _ H v H1 h
  ·simp only [kindOf,ho,he.1,he.2] at hk;cases hk
  ·simp only [kindOf,ho,he.1,he.2] at hk;cases hk
 |call c=>
  obtain ⟨callee,args,ats⟩:=c;cases callee with
  |builtin b=>
   simp only [aO,ho,db] at h;unfold bk at h;split at h
   ·simp [kindOf,ho] at hk
   ·split at h
    ·unfold valOf at h;split at h
     ·cases h;rfl
     ·cases h
    ·cases h
   ·split at h
    ·split at h
     ·split at h
      ·cases h
      ·cases h;rfl
     ·cases h
    ·cases h
   ·simp [kindOf,ho] at hk
   ·split at h
    ·exact kY _ H v H1 h
    ·cases h
   ·split at h
    ·exact kY _ H v H1 h
    ·cases h
   ·cases h;rfl
   ·split at h
    ·cases h
    ·cases h;rfl
   ·simp [kindOf,ho] at hk
   ·cases h
  |value f=>simp [kindOf,ho] at hk
  |invoke r n=>simp [kindOf,ho] at hk
 |_=>simp [kindOf,ho] at hk
theorem zd {o:Oper} (hk:kindOf P o≠ .chain):eA o=true/\∀ c,o.op≠ .defer c:=by
 cases ho:o.op with
 |call c=>
  obtain ⟨callee,args,ats⟩:=c;cases callee with
  |builtin b=>exact ⟨by simp [eA,ho],fun c e=>by cases e⟩
  |value f=>exact absurd (by simp [kindOf,ho]) hk
  |invoke r n=>exact absurd (by simp [kindOf,ho]) hk
 |defer c=>exact absurd (by simp [kindOf,ho]) hk
 |_=>exact ⟨by simp [eA,ho],fun c e=>by cases e⟩
inductive Qr:(Nat->Value)->Prop
 |ptr:Qr ptrTo
 |slice (l c:Nat):Qr fun n=> .slice (some ⟨n,0,none⟩) l c
 |map:Qr fun n=> .map (some n)
def ku (f:IH->Option ag):Prop:=∀ H v H1,f H=some (.val v H1)->∃ vf ob,Qr vf/\∀ H2,f H2=some (.val (vf H2.n) (H2.new ob))
theorem uJ (e:TypeId) (s:ByteArray):ku fun H=>fg P H e s:=by
 intro H v H1 h;simp only at h;unfold fg at h;split at h
 ·rename_i hu
  exact ⟨_,.cells ((bl s).map fun c=> .int .u8 c.toNat) e 0 false true,.slice s.size (eD+1),fun H2=>by simp only [fg,hu]⟩
 ·cases h
theorem zb (e:TypeId):ku fun H=>fH P H e:=by
 intro H v H1 h;simp only at h;unfold fH at h;split at h
 ·rename_i z hz
  exact ⟨_,.cells z.cells.toList e 0 true false,.ptr,fun H2=>by simp only [fH,bE,hz]⟩
 ·cases h
theorem FW (e:TypeId) (v:Value):ku fun H=>nQ H e v:=by
 intro H v1 H1 h;simp only at h;unfold nQ at h;split at h
 ·rename_i hz
  exact ⟨_,.cells v.cells.toList e 0 true false,.ptr,fun H2=>by simp only [nQ,bE,hz,if_true]⟩
 ·cases h
theorem og (t:TypeId) (len:Nat) (ps:List (Nat×Value)):ku fun H=>aW P H t len ps:=by
 intro H v H1 h;simp only at h;unfold aW at h;split at h
 ·rename_i e i he
  split at h
  ·rename_i hc
   split at h
   ·rename_i z hz
    split at h
    ·rename_i hs
     split at h
     ·rename_i cells hf
      exact ⟨_,.cells cells.toList e 0 true false,.slice len len,fun H2=>by simp only [aW,bE,he,hc,if_true,hz,hs,hf]⟩
     ·cases h
    ·cases h
   ·cases h
  ·cases h
 ·cases h
theorem pw (t:TypeId) (l c:Value):ku fun H=>bg P H t l c:=by
 intro H v H1 h;simp only at h;unfold bg at h;split at h
 ·rename_i e i l c he
  split at h
  ·rename_i hc
   split at h
   ·rename_i z hz
    split at h
    ·rename_i hs
     exact ⟨_,.cells (du z.cells.toList c.toNat) e 0 true false,.slice l.toNat c.toNat,fun H2=>by simp only [bg,bE,he,hc,if_true,hz,hs]⟩
    ·cases h
   ·cases h
  ·cases h
 ·cases h
theorem ui (t:TypeId) (r:Option Value):ku fun H=>cb P H t r:=by
 intro H v H1 h;simp only at h;unfold cb at h;split at h
 ·exact ⟨_,.map [] 0,.map,fun H2=>rfl⟩
 ·split at h
  ·rename_i hu
   exact ⟨_,.map [] 0,.map,fun H2=>by simp only [cb,hu]⟩
  ·cases h
theorem Ms {sf:Self} {Z:Operand->Value} {o:Oper} (hk:kindOf P o= .fresh):ku fun H=>aO P sf Z H o:=by
 have key:∀ (f:IH->Option ag),(∀ H,aO P sf Z H o=f H)->ku f->ku fun H=>aO P sf Z H o:=by
  intro f e hf H v H1 h;simp only [e] at h ⊢;exact hf H v H1 h
 cases ho:o.op with
 |alloc e=>exact key _ (fun _=>by simp only [aO,ho]) (zb (P:=P) e)
 |box e x=>exact key _ (fun _=>by simp only [aO,ho]) (FW e (Z x))
 |buildSlice t len ps=>exact key _ (fun _=>by simp only [aO,ho]) (og (P:=P) t len (ps.toList.map fun p=>(p.1,Z p.2)))
 |makeSlice t l c=>exact key _ (fun _=>by simp only [aO,ho]) (pw (P:=P) t (Z l) (Z c))
 |makeMap t r=>exact key _ (fun _=>by simp only [aO,ho]) (ui (P:=P) t (r.map Z))
 |convert src dst x=>
  simp only [kindOf,ho] at hk;split at hk
  ·rename_i e hs hd
   intro H v H1 h;simp only [aO,ho,bb,hs,hd] at h ⊢;split at h
   ·rename_i s hx
    obtain ⟨vf,ob,h1,h2⟩:=uJ (P:=P) e s H v H1 h;exact ⟨vf,ob,h1,h2⟩
   ·cases h
  ·cases hk
  ·cases hk
 |call c=>
  obtain ⟨callee,args,ats⟩:=c;cases callee with
  |builtin b=>cases b<;>simp [kindOf,ho] at hk
  |value f=>simp [kindOf,ho] at hk
  |invoke r n=>simp [kindOf,ho] at hk
 |_=>simp [kindOf,ho] at hk
end Go.Iv
