/- Operations that ask nothing of the heap, or leave it as it is. -/
import Derived.Test.YtnidajnmgfbieaaGreatDoorIvCode
set_option linter.unusedSimpArgs false
set_option linter.unusedVariables false
namespace Go.Iv
open Go
variable {P:Program} {H H':IH} {res:aa}
def dV (f:IH->Option aa):Prop:=∀ H res,f H=some res->∃ v,res= .val v H/\∀ H2,f H2=some (.val v H2)
theorem kl (c a b:Value):dV fun H=>e6 H c a b:=by
 intro H res h;simp only [e6] at h ⊢;split at h
 ·cases h;exact ⟨_,rfl,fun _=>rfl⟩
 ·cases h
theorem gq (x:Value):dV fun H=>bH H x:=by
 intro H res h;simp only [bH] at h ⊢;split at h
 ·cases h;exact ⟨_,rfl,fun _=>rfl⟩
 ·cases h;exact ⟨_,rfl,fun _=>rfl⟩
 ·cases h;exact ⟨_,rfl,fun _=>rfl⟩
 ·cases h
theorem m3 (op:UnOp) (a:Value):dV fun H=>lF P H op a:=by
 intro H res h;simp only [lF] at h ⊢;split at h
 ·split at h
  ·cases h;exact ⟨_,rfl,fun _=>rfl⟩
  ·cases h
 ·split at h
  ·rename_i hr
   split at h
   ·rename_i hf;cases h;exact ⟨_,rfl,fun _=>by simp [hf]⟩
   ·cases h
  ·cases h
 ·cases h
theorem fB (s:TypeId) (x:Value) (f:Nat):dV fun H=>bt P H s x f:=by
 intro H res h;simp only [bt] at h ⊢;split at h
 ·rename_i hu
  split at h
  ·rename_i hf
   split at h
   ·rename_i hi
    split at h
    ·cases h
    ·rename_i hz;cases h;exact ⟨_,rfl,fun _=>by simp [hz]⟩
   ·cases h
  ·cases h
 ·cases h
theorem eQ (o:Option Value):dV fun H=>valOf H o:=by
 intro H res h;simp only [valOf] at h ⊢;split at h
 ·cases h;exact ⟨_,rfl,fun _=>rfl⟩
 ·cases h
theorem j5 (t:TypeId) (x:Value) (f:Nat):dV fun H=>dA P H t x f:=by
 intro H res h;simp only [dA] at h ⊢;split at h
 ·rename_i hu
  split at h
  ·rename_i hf
   obtain ⟨v,h1,h2⟩:=eQ _ H res h;exact ⟨v,h1,fun H2=>by have:=h2 H2;simp_all⟩
  ·cases h
 ·cases h
theorem ft (t:TypeId) (x ix:Value):dV fun H=>a8 P H t x ix:=by
 intro H res h;simp only [a8] at h ⊢;split at h
 ·rename_i hu
  split at h
  ·rename_i hi
   split at h
   ·rename_i hz;cases h;exact ⟨_,rfl,fun _=>by simp only [hz,if_true]⟩
   ·cases h
  ·cases h
 ·rename_i hu
  split at h
  ·rename_i hi
   split at h
   ·rename_i hz;cases h;exact ⟨_,rfl,fun _=>by simp only [hz,if_true]⟩
   ·cases h
  ·cases h
 ·cases h
theorem jv (t:TypeId) (x ix:Value):dV fun H=>dH P H t x ix:=by
 intro H res h;simp only [dH] at h ⊢;split at h
 ·rename_i hu
  split at h
  ·rename_i hz
   split at h
   ·rename_i hc;cases h;exact ⟨_,rfl,fun _=>by simp only [hz,if_true]⟩
   ·cases h
  ·cases h
 ·rename_i hu
  split at h
  ·rename_i hz
   split at h
   ·rename_i hi
    obtain ⟨v,h1,h2⟩:=eQ _ H res h;exact ⟨v,h1,fun H2=>by simp only [hz,if_true];exact h2 H2⟩
   ·cases h
  ·cases h
 ·cases h
theorem gS (x:Value) (i:Nat):dV fun H=>b8 H x i:=by
 intro H res h;simp only [b8] at h ⊢;split at h
 ·exact eQ _ H res h
 ·cases h
theorem fy (t:TypeId) (v:Value):dV fun H=>bq P H t v:=by
 intro H res h;simp only [bq] at h ⊢;split at h
 ·cases h
 ·rename_i hu hn;cases h;exact ⟨_,rfl,fun _=>by simp only⟩
 ·cases h
theorem jz (t:TypeId) (ps:List (Nat×Value)):dV fun H=>cT P H t ps:=by
 intro H res h;simp only [cT] at h ⊢;split at h
 ·rename_i hok
  split at h
  ·rename_i hz
   split at h
   ·rename_i hu
    split at h
    ·rename_i hp
     split at h
     ·rename_i hf;cases h;exact ⟨_,rfl,fun _=>by simp only [hok,if_true]⟩
     ·cases h
    ·cases h
   ·rename_i hu
    split at h
    ·rename_i hp
     split at h
     ·rename_i hf;cases h;exact ⟨_,rfl,fun _=>by simp only [hok,if_true]⟩
     ·cases h
    ·cases h
   ·cases h
  ·cases h
 ·cases h
theorem eR (x:Value) (t:TypeId) (ok:Bool):dV fun H=>bb P H x t ok:=by
 intro H res h;simp only [bb] at h ⊢;split at h
 ·cases h
 ·rename_i hu hn
  split at h
  ·rename_i e
   cases h;exact ⟨_,rfl,fun _=>by simp_all⟩
  ·cases h
 ·cases h
theorem jU (t:TypeId) (x:Value) (lo hi mx:Option Value):dV fun H=>dI P H t x lo hi mx:=by
 intro H res h;simp only [dI] at h ⊢;split at h
 ·rename_i hu
  split at h
  ·rename_i hb
   split at h
   ·rename_i hl;cases h;exact ⟨_,rfl,fun _=>by simp only⟩
   ·cases h
  ·cases h
 ·rename_i hu
  split at h
  ·rename_i hi'
   split at h
   ·rename_i hs;cases h;exact ⟨_,rfl,fun _=>by simp only⟩
   ·cases h
  ·cases h
 ·rename_i hu
  split at h
  ·rename_i hi'
   split at h
   ·rename_i hn
    split at h
    ·rename_i hh
     split at h
     ·rename_i hl;cases h;exact ⟨_,rfl,fun _=>by simp only [hn,if_true]⟩
     ·cases h
    ·cases h
   ·cases h
  ·cases h
 ·cases h
theorem l2 {sf:Self} {Z:Operand->Value} {o:Oper} (hk:kindOf P o= .pure):dV fun H=>aq P sf Z H o:=by
 intro H res h;simp only at h;have key:∀ (f:IH->Option aa),(∀ H,aq P sf Z H o=f H)->dV f->∃ v,res= .val v H/\∀ H2,aq P sf Z H2 o=some (.val v H2):=by
  intro f e hf;rw [e] at h;obtain ⟨v,h1,h2⟩:=hf H res h;exact ⟨v,h1,fun H2=>by rw [e];exact h2 H2⟩
 cases ho:o.op with
 |move x=>exact key (fun H=>some (.val (Z x) H)) (fun _=>by simp only [aq,ho]) (fun H r h=>by cases h;exact ⟨_,rfl,fun _=>rfl⟩)
 |assign x=>exact key (fun H=>some (.val (Z x) H)) (fun _=>by simp only [aq,ho]) (fun H r h=>by cases h;exact ⟨_,rfl,fun _=>rfl⟩)
 |pick c a b=>exact key _ (fun _=>by simp only [aq,ho]) (kl (Z c) (Z a) (Z b))
 |nilCheck x=>exact key _ (fun _=>by simp only [aq,ho]) (gq (Z x))
 |unOp op t x=>exact key _ (fun _=>by simp only [aq,ho]) (m3 (P:=P) op (Z x))
 |fieldAddr s x f=>exact key _ (fun _=>by simp only [aq,ho]) (fB (P:=P) s (Z x) f)
 |field t x f=>exact key _ (fun _=>by simp only [aq,ho]) (j5 (P:=P) t (Z x) f)
 |indexAddr t x ix=>exact key _ (fun _=>by simp only [aq,ho]) (ft (P:=P) t (Z x) (Z ix))
 |index t x ix=>exact key _ (fun _=>by simp only [aq,ho]) (jv (P:=P) t (Z x) (Z ix))
 |extract x i=>exact key _ (fun _=>by simp only [aq,ho]) (gS (Z x) i)
 |slice t x lo hi mx=>exact key _ (fun _=>by simp only [aq,ho]) (jU (P:=P) t (Z x) (lo.map Z) (hi.map Z) (mx.map Z))
 |makeInterface t x=>exact key _ (fun _=>by simp only [aq,ho]) (fy (P:=P) t (Z x))
 |build t ps=>exact key _ (fun _=>by simp only [aq,ho]) (jz (P:=P) t (ps.toList.map fun p=>(p.1,Z p.2)))
 |typeAssert x t asserted ok=>exact key _ (fun _=>by simp only [aq,ho]) (eR (P:=P) (Z x) asserted ok)
 |makeFunc fn first captured=>
  by_cases hp:bM fn=true
  ·exact key (fun H=>some (.val (.func fn ⟨first.toList.map Z⟩ ⟨captured.toList.map Z⟩) H)) (fun _=>by simp only [aq,ho,hp,if_true]) (fun H r h=>by cases h;exact ⟨_,rfl,fun _=>rfl⟩)
  ·simp only [aq,ho] at h
   rw [if_neg hp] at h;cases h
 |convert a b x=>
  simp only [kindOf,ho] at hk;split at hk<;>cases hk
 |call c=>
  obtain ⟨callee,args,ats⟩:=c;cases callee with
  |builtin b=>cases b<;>simp [kindOf,ho] at hk
  |value f=>simp [kindOf,ho] at hk
  |invoke r n=>simp [kindOf,ho] at hk
 |_=>simp [kindOf,ho] at hk
def dK (f:IH->Option aa):Prop:=∀ H v H1,f H=some (.val v H1)->H1=H
theorem jj (t:TypeId) (a:Value):dK fun H=>dO P H t a:=by
 intro H v H1 h;simp only [dO] at h;split at h
 ·split at h
  ·cases h;rfl
  ·cases h
 ·cases h
theorem gQ (t:TypeId) (x k:Value) (ok:Bool):dK fun H=>cH P H t x k ok:=by
 intro H v H1 h;simp only [cH] at h;split at h
 ·split at h
  ·split at h
   ·split at h
    ·cases h;rfl
    ·split at h
     ·cases h;rfl
     ·cases h
    ·cases h
   ·cases h
  ·cases h
 ·split at h
  ·split at h
   ·cases h;rfl
   ·cases h
  ·cases h
 ·cases h
theorem fc (neg:Bool) (t:TypeId) (x y:Operand) (a b:Value):dK fun H=>cF P H neg t x y a b:=by
 intro H v H1 h;simp only [cF] at h;split at h
 ·split at h
  ·cases h;rfl
  ·cases h
 ·cases h;rfl
 ·split at h
  ·cases h;rfl
  ·split at h
   ·split at h
    ·split at h
     ·cases h;rfl
     ·cases h
    ·cases h
   ·cases h
theorem ks (op:BinOp) (t:TypeId) (x y:Operand) (a b:Value):dK fun H=>aC P H op t x y a b:=by
 intro H v H1 h;simp only [aC] at h;split at h
 ·exact fc _ _ _ _ _ _ H v H1 h
 ·exact fc _ _ _ _ _ _ H v H1 h
 all_goals first
  |(
    split at h
    ·split at h
     ·cases h;rfl
     ·cases h
    ·cases h;rfl
    ·cases h)
  |(
    split at h
    ·split at h
     ·cases h;rfl
     ·cases h
    ·split at h
     ·cases h;rfl
     ·cases h
    ·cases h)
  |(
    split at h
    ·split at h
     ·cases h;rfl
     ·cases h
    ·cases h)
  |(
    split at h
    ·split at h
     ·split at h
      ·cases h;rfl
      ·cases h
     ·cases h
    ·cases h)
theorem c6 (s:Sem Value):dK fun H=>bI P H s:=by
 intro H v H1 h;simp only [bI] at h;split at h
 ·split at h
  ·cases h;rfl
  ·cases h
 ·cases h
theorem fm (e:TypeId) (x:Value):dK fun H=>cg P H e x:=by
 intro H v H1 h;simp only [cg] at h;split at h
 ·cases h;rfl
 ·split at h
  ·cases h;rfl
  ·split at h
   ·split at h
    ·cases h;rfl
    ·cases h
   ·cases h
 ·cases h
theorem fp (t:TypeId) (x:Value):dK fun H=>cb P H t x:=by
 intro H v H1 h;simp only [cb] at h;split at h
 ·cases h;rfl
 ·split at h
  ·split at h
   ·cases h;rfl
   ·cases h
  ·cases h
 ·cases h
theorem et (t:TypeId) (x:Value):dK fun H=>bA P H t x:=by
 intro H v H1 h;simp only [bA] at h;split at h
 ·cases h;rfl
 ·split at h
  ·split at h
   ·cases h;rfl
   ·cases h
  ·cases h
 ·cases h
end Go.Iv
/- Operations that leave the heap as it is, or lay one new block (the second part). -/
namespace Go.Iv
open Go
variable {P:Program} {H H':IH} {res:aa}
theorem gE {src dst:TypeId} (h1:∀ e,¬ (P.underlying src=some .string/\P.underlying dst=some (.slice e))) (h2:∀ e e',¬ (P.underlying src=some (.slice e)/\P.underlying dst=some (.slice e'))) (x:Value):
  dK fun H=>bF P H src dst x:=by
 intro H v H1 h;simp only [bF] at h;split at h
 ·split at h
  ·cases h;rfl
  ·cases h
 ·split at h
  ·cases h;rfl
  ·cases h
 ·split at h
  ·cases h;rfl
  ·cases h
 ·rename_i hs hd;exact absurd ⟨hs,hd⟩ (h1 _)
 ·rename_i hs hd;exact absurd ⟨hs,hd⟩ (h2 _ _)
 ·exact fm _ _ H v H1 h
 ·exact fp _ _ H v H1 h
 ·exact et _ _ H v H1 h
 ·cases h
theorem lB {sf:Self} {Z:Operand->Value} {o:Oper} (hk:kindOf P o= .read):dK fun H=>aq P sf Z H o:=by
 intro H v H1 h;simp only at h;cases ho:o.op with
 |load t a=>simp only [aq,ho] at h;exact jj _ _ H v H1 h
 |lookup t x k ok=>simp only [aq,ho] at h;exact gQ _ _ _ _ H v H1 h
 |binOp op t x y yt=>simp only [aq,ho] at h;exact ks _ _ _ _ _ _ H v H1 h
 |convert src dst x=>
  simp only [aq,ho] at h;refine gE (fun e he=>?_) (fun e e' he=>?_) _ H v H1 h
  ·simp only [kindOf,ho,he.1,he.2] at hk;cases hk
  ·simp only [kindOf,ho,he.1,he.2] at hk;cases hk
 |call c=>
  obtain ⟨callee,args,ats⟩:=c;cases callee with
  |builtin b=>
   simp only [aq,ho,cf] at h;unfold bp at h;split at h
   ·simp [kindOf,ho] at hk
   ·split at h
    ·unfold valOf at h;split at h
     ·cases h;rfl
     ·cases h
    ·cases h
   ·split at h
    ·split at h
     ·split at h
      ·cases h
      ·cases h;rfl
     ·cases h
    ·cases h
   ·simp [kindOf,ho] at hk
   ·split at h
    ·exact c6 _ H v H1 h
    ·cases h
   ·split at h
    ·exact c6 _ H v H1 h
    ·cases h
   ·cases h;rfl
   ·split at h
    ·cases h
    ·cases h;rfl
   ·simp [kindOf,ho] at hk
   ·cases h
  |value f=>simp [kindOf,ho] at hk
  |invoke r n=>simp [kindOf,ho] at hk
 |_=>simp [kindOf,ho] at hk
theorem g5 {o:Oper} (hk:kindOf P o≠ .chain):a9 o=true/\∀ c,o.op≠ .defer c:=by
 cases ho:o.op with
 |call c=>
  obtain ⟨callee,args,ats⟩:=c;cases callee with
  |builtin b=>exact ⟨by simp [a9,ho],fun c e=>by cases e⟩
  |value f=>exact absurd (by simp [kindOf,ho]) hk
  |invoke r n=>exact absurd (by simp [kindOf,ho]) hk
 |defer c=>exact absurd (by simp [kindOf,ho]) hk
 |_=>exact ⟨by simp [a9,ho],fun c e=>by cases e⟩
inductive mO:(Nat->Value)->Prop
 |ptr:mO ptrTo
 |slice (l c:Nat):mO fun n=> .slice (some ⟨n,0,none⟩) l c
 |map:mO fun n=> .map (some n)
def cL (f:IH->Option aa):Prop:=∀ H v H1,f H=some (.val v H1)->∃ vf ob,mO vf/\∀ H2,f H2=some (.val (vf H2.n) (H2.new ob))
theorem fq (e:TypeId) (s:ByteArray):cL fun H=>b5 P H e s:=by
 intro H v H1 h;simp only at h;unfold b5 at h;split at h
 ·rename_i hu
  exact ⟨_,.cells ((bl s).map fun c=> .int .u8 c.toNat) e 0 false true,.slice s.size (gG+1),fun H2=>by simp only [b5,hu]⟩
 ·cases h
theorem gP (e:TypeId):cL fun H=>c0 P H e:=by
 intro H v H1 h;simp only at h;unfold c0 at h;split at h
 ·rename_i z hz
  exact ⟨_,.cells z.cells.toList e 0 true false,.ptr,fun H2=>by simp only [c0,aX,hz]⟩
 ·cases h
theorem jm (e:TypeId) (v:Value):cL fun H=>gC H e v:=by
 intro H v1 H1 h;simp only at h;unfold gC at h;split at h
 ·rename_i hz
  exact ⟨_,.cells v.cells.toList e 0 true false,.ptr,fun H2=>by simp only [gC,aX,hz,if_true]⟩
 ·cases h
theorem dZ (t:TypeId) (len:Nat) (ps:List (Nat×Value)):cL fun H=>aT P H t len ps:=by
 intro H v H1 h;simp only at h;unfold aT at h;split at h
 ·rename_i e i he
  split at h
  ·rename_i hc
   split at h
   ·rename_i z hz
    split at h
    ·rename_i hs
     split at h
     ·rename_i cells hf
      exact ⟨_,.cells cells.toList e 0 true false,.slice len len,fun H2=>by simp only [aT,aX,he,hc,if_true,hz,hs,hf]⟩
     ·cases h
    ·cases h
   ·cases h
  ·cases h
 ·cases h
theorem ek (t:TypeId) (l c:Value):cL fun H=>a4 P H t l c:=by
 intro H v H1 h;simp only at h;unfold a4 at h;split at h
 ·rename_i e i l c he
  split at h
  ·rename_i hc
   split at h
   ·rename_i z hz
    split at h
    ·rename_i hs
     exact ⟨_,.cells (cJ z.cells.toList c.toNat) e 0 true false,.slice l.toNat c.toNat,fun H2=>by simp only [a4,aX,he,hc,if_true,hz,hs]⟩
    ·cases h
   ·cases h
  ·cases h
 ·cases h
theorem fl (t:TypeId) (r:Option Value):cL fun H=>bJ P H t r:=by
 intro H v H1 h;simp only at h;unfold bJ at h;split at h
 ·exact ⟨_,.map [] 0,.map,fun H2=>rfl⟩
 ·split at h
  ·rename_i hu
   exact ⟨_,.map [] 0,.map,fun H2=>by simp only [bJ,hu]⟩
  ·cases h
theorem ld {sf:Self} {Z:Operand->Value} {o:Oper} (hk:kindOf P o= .fresh):cL fun H=>aq P sf Z H o:=by
 have key:∀ (f:IH->Option aa),(∀ H,aq P sf Z H o=f H)->cL f->cL fun H=>aq P sf Z H o:=by
  intro f e hf H v H1 h;simp only [e] at h ⊢;exact hf H v H1 h
 cases ho:o.op with
 |alloc e=>exact key _ (fun _=>by simp only [aq,ho]) (gP (P:=P) e)
 |box e x=>exact key _ (fun _=>by simp only [aq,ho]) (jm e (Z x))
 |buildSlice t len ps=>exact key _ (fun _=>by simp only [aq,ho]) (dZ (P:=P) t len (ps.toList.map fun p=>(p.1,Z p.2)))
 |makeSlice t l c=>exact key _ (fun _=>by simp only [aq,ho]) (ek (P:=P) t (Z l) (Z c))
 |makeMap t r=>exact key _ (fun _=>by simp only [aq,ho]) (fl (P:=P) t (r.map Z))
 |convert src dst x=>
  simp only [kindOf,ho] at hk;split at hk
  ·rename_i e hs hd
   intro H v H1 h;simp only [aq,ho,bF,hs,hd] at h ⊢;split at h
   ·rename_i s hx
    obtain ⟨vf,ob,h1,h2⟩:=fq (P:=P) e s H v H1 h;exact ⟨vf,ob,h1,h2⟩
   ·cases h
  ·cases hk
  ·cases hk
 |call c=>
  obtain ⟨callee,args,ats⟩:=c;cases callee with
  |builtin b=>cases b<;>simp [kindOf,ho] at hk
  |value f=>simp [kindOf,ho] at hk
  |invoke r n=>simp [kindOf,ho] at hk
 |_=>simp [kindOf,ho] at hk
end Go.Iv
