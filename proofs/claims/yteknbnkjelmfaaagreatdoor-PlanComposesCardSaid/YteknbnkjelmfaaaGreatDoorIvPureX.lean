/- Operations that ask nothing of the heap, or leave it as it is. -/
import Derived.Test.YteknbnkjelmfaaaGreatDoorIvCode
set_option linter.unusedSimpArgs false
set_option linter.unusedVariables false
namespace Go.Iv
open Go
variable {P:Program} {H H':IH} {res:az}
def nH (f:IH->Option az):Prop:=∀ H res,f H=some res->∃ v,res= .val v H/\∀ H2,f H2=some (.val v H2)
theorem E8 (c a b:Value):nH fun H=>nZ H c a b:=by
 intro H res h;simp only [nZ] at h ⊢
 grind
theorem uP (x:Value):nH fun H=>eV H x:=by
 intro H res h;simp only [eV] at h ⊢
 grind
theorem Lp (op:UnOp) (a:Value):nH fun H=>DL P H op a:=by
 intro H res h;simp only [DL] at h ⊢
 grind
theorem sV (s:TypeId) (x:Value) (f:Nat):nH fun H=>cD P H s x f:=by
 intro H res h;simp only [cD] at h ⊢;split at h
 .grind
 .cases h
theorem rG (o:Option Value):nH fun H=>valOf H o:=by
 intro H res h;simp only [valOf] at h ⊢
 grind
theorem B9 (t:TypeId) (x:Value) (f:Nat):nH fun H=>kj P H t x f:=by
 intro H res h;simp only [kj] at h ⊢;split at h
 .rename_i hu
  split at h
  .rename_i hf
   obtain ⟨v,h1,h2⟩:=rG _ H res h
   grind
  .cases h
 .cases h
theorem sO (t:TypeId) (x ix:Value):nH fun H=>bm P H t x ix:=by
 intro H res h;simp only [bm] at h ⊢;split at h
 .grind
 .grind
 .cases h
theorem Cv (t:TypeId) (x ix:Value):nH fun H=>jg P H t x ix:=by
 intro H res h;simp only [jg] at h ⊢;split at h
 .grind
 .rename_i hu
  split at h
  .rename_i hz
   split at h
   .rename_i hi
    obtain ⟨v,h1,h2⟩:=rG _ H res h
    grind
   .cases h
  .cases h
 .cases h
theorem wz (x:Value) (i:Nat):nH fun H=>fO H x i:=by
 intro H res h;simp only [fO] at h ⊢;split at h
 .exact rG _ H res h
 .cases h
theorem sK (t:TypeId) (v:Value):nH fun H=>e8 P H t v:=by
 intro H res h;simp only [e8] at h ⊢
 grind
theorem B0 (t:TypeId) (ps:List (Nat×Value)):nH fun H=>ka P H t ps:=by
 intro H res h;simp only [ka] at h ⊢;split at h
 .rename_i hok
  split at h
  .rename_i hz
   split at h
   .grind
   .grind
   .cases h
  .cases h
 .cases h
theorem rq (x:Value) (t:TypeId) (ok:Bool):nH fun H=>fE P H x t ok:=by
 intro H res h;exact absurd (show none=some res from h) (by simp)
theorem AP (t:TypeId) (x:Value) (lo hi mx:Option Value):nH fun H=>cU P H t x lo hi mx:=by
 intro H res h;simp only [cU] at h ⊢;split at h
 .grind
 .grind
 .rename_i hu
  split at h
  .rename_i hi'
   grind
  .cases h
 .cases h
theorem oV {sf:Self} {ρ:Operand->Value} {o:Oper} (hk:kindOf P o= .pure):nH fun H=>aG P sf ρ H o:=by
 intro H res h;simp only at h;have key:∀ (f:IH->Option az),(∀ H,aG P sf ρ H o=f H)->nH f->∃ v,res= .val v H/\∀ H2,aG P sf ρ H2 o=some (.val v H2):=by
  intro f e hf;rw [e] at h;obtain ⟨v,h1,h2⟩:=hf H res h;exact ⟨v,h1,fun H2=>by grind⟩
 cases ho:o.op with
 |move x=>exact key (fun H=>some (.val (ρ x) H)) (fun _=>by simp only [aG,ho]) (fun H r h=>by grind)
 |assign x=>exact key (fun H=>some (.val (ρ x) H)) (fun _=>by simp only [aG,ho]) (fun H r h=>by grind)
 |pick c a b=>exact key _ (fun _=>by simp only [aG,ho]) (E8 (ρ c) (ρ a) (ρ b))
 |nilCheck x=>exact key _ (fun _=>by simp only [aG,ho]) (uP (ρ x))
 |unOp op t x=>exact key _ (fun _=>by simp only [aG,ho]) (Lp (P:=P) op (ρ x))
 |fieldAddr s x f=>exact key _ (fun _=>by simp only [aG,ho]) (sV (P:=P) s (ρ x) f)
 |field t x f=>exact key _ (fun _=>by simp only [aG,ho]) (B9 (P:=P) t (ρ x) f)
 |indexAddr t x ix=>exact key _ (fun _=>by simp only [aG,ho]) (sO (P:=P) t (ρ x) (ρ ix))
 |index t x ix=>exact key _ (fun _=>by simp only [aG,ho]) (Cv (P:=P) t (ρ x) (ρ ix))
 |extract x i=>exact key _ (fun _=>by simp only [aG,ho]) (wz (ρ x) i)
 |slice t x lo hi mx=>exact key _ (fun _=>by simp only [aG,ho]) (AP (P:=P) t (ρ x) (lo.map ρ) (hi.map ρ) (mx.map ρ))
 |makeInterface t x=>exact key _ (fun _=>by simp only [aG,ho]) (sK (P:=P) t (ρ x))
 |build t ps=>exact key _ (fun _=>by simp only [aG,ho]) (B0 (P:=P) t (ps.toList.map fun p=>(p.1,ρ p.2)))
 |typeAssert x t asserted ok=>exact key _ (fun _=>by simp only [aG,ho]) (rq (P:=P) (ρ x) asserted ok)
 |makeFunc fn first captured=>
  by_cases hp:fW fn=true
  .exact key (fun H=>some (.val (.func fn ⟨first.toList.map ρ⟩ ⟨captured.toList.map ρ⟩) H)) (fun _=>by simp only [aG,ho,hp,if_true]) (fun H r h=>by grind)
  .simp only [aG,ho] at h
   grind
 |convert a b x=>
  simp only [kindOf,ho] at hk
  grind
 |call c=>
  obtain ⟨callee,args,ats⟩:=c;cases callee with
  |builtin b=>cases b<;>simp [kindOf,ho] at hk
  |value f=>simp [kindOf,ho] at hk
  |invoke r n=>simp [kindOf,ho] at hk
 |_=>simp [kindOf,ho] at hk
def nw (f:IH->Option az):Prop:=∀ H v H1,f H=some (.val v H1)->H1=H
theorem AW (t:TypeId) (a:Value):nw fun H=>dc P H t a:=by
 intro H v H1 h;simp only [dc] at h
 grind
theorem wH (t:TypeId) (x k:Value) (ok:Bool):nw fun H=>cN P H t x k ok:=by
 intro H v H1 h;simp only [cN] at h;split at h
 .grind
 .grind
 .cases h
theorem rM (neg:Bool) (t:TypeId) (x y:Operand) (a b:Value):nw fun H=>bP P H neg t x y a b:=by
 intro H v H1 h;simp only [bP] at h
 grind
theorem Dy (op:BinOp) (t:TypeId) (x y:Operand) (a b:Value):nw fun H=>aX P H op t x y a b:=by
 intro H v H1 h;simp only [aX] at h;split at h
 .exact rM _ _ _ _ _ _ H v H1 h
 .exact rM _ _ _ _ _ _ H v H1 h
 all_goals first
  |grind
  |grind
  |grind
  |grind
theorem kX (s:Sem Value):nw fun H=>cI P H s:=by
 intro H v H1 h;simp only [cI] at h
 grind
theorem sL (e:TypeId) (x:Value):nw fun H=>cP P H e x:=by
 intro H v H1 h;simp only [cP] at h
 grind
theorem s6 (t:TypeId) (x:Value):nw fun H=>dB P H t x:=by
 intro H v H1 h;simp only [dB] at h
 grind
theorem pH (t:TypeId) (x:Value):nw fun H=>cz P H t x:=by
 intro H v H1 h;simp only [cz] at h
 grind
end Go.Iv
/- Operations that leave the heap as it is, or lay one new block (the second part). -/
namespace Go.Iv
open Go
variable {P:Program} {H H':IH} {res:az}
theorem uf {src dst:TypeId} (h1:∀ e,¬ (P.underlying src=some .string/\P.underlying dst=some (.slice e))) (h2:∀ e e',¬ (P.underlying src=some (.slice e)/\P.underlying dst=some (.slice e'))) (x:Value):
  nw fun H=>aQ P H src dst x:=by
 intro H v H1 h;simp only [aQ] at h;split at h
 .grind
 .grind
 .grind
 .grind
 .grind
 .exact sL _ _ H v H1 h
 .exact s6 _ _ H v H1 h
 .exact pH _ _ H v H1 h
 .cases h
theorem xX {sf:Self} {ρ:Operand->Value} {o:Oper} (hk:kindOf P o= .read):nw fun H=>aG P sf ρ H o:=by
 intro H v H1 h;simp only at h;cases ho:o.op with
 |load t a=>simp only [aG,ho] at h;exact AW _ _ H v H1 h
 |lookup t x k ok=>simp only [aG,ho] at h;exact wH _ _ _ _ H v H1 h
 |binOp op t x y yt=>simp only [aG,ho] at h;exact Dy _ _ _ _ _ _ H v H1 h
 |convert src dst x=>
  simp only [aG,ho] at h;refine uf (fun e he=>?_) (fun e e' he=>?_) _ H v H1 h
  .simp only [kindOf,ho,he.1,he.2] at hk;cases hk
  .simp only [kindOf,ho,he.1,he.2] at hk;cases hk
 |call c=>
  obtain ⟨callee,args,ats⟩:=c;cases callee with
  |builtin b=>
   simp only [aG,ho,dt] at h;unfold bj at h;split at h
   .simp [kindOf,ho] at hk
   .split at h
    .unfold valOf at h;grind
    .cases h
   .grind
   .simp [kindOf,ho] at hk
   .split at h
    .exact kX _ H v H1 h
    .cases h
   .split at h
    .exact kX _ H v H1 h
    .cases h
   .cases h;rfl
   .grind
   .simp [kindOf,ho] at hk
   .cases h
  |value f=>simp [kindOf,ho] at hk
  |invoke r n=>simp [kindOf,ho] at hk
 |_=>simp [kindOf,ho] at hk
theorem wF {o:Oper} (hk:kindOf P o≠ .chain):iX o=true/\∀ c,o.op≠ .defer c:=by
 cases ho:o.op with
 |call c=>
  obtain ⟨callee,args,ats⟩:=c;cases callee with
  |builtin b=>exact ⟨by simp [iX,ho],fun c e=>by cases e⟩
  |value f=>exact absurd (by simp [kindOf,ho]) hk
  |invoke r n=>exact absurd (by simp [kindOf,ho]) hk
 |defer c=>exact absurd (by simp [kindOf,ho]) hk
 |_=>exact ⟨by simp [iX,ho],fun c e=>by cases e⟩
inductive Nu:(Nat->Value)->Prop
 |ptr:Nu ptrTo
 |slice (l c:Nat):Nu fun n=> .slice (some ⟨n,0,none⟩) l c
 |map:Nu fun n=> .map (some n)
def kI (f:IH->Option az):Prop:=∀ H v H1,f H=some (.val v H1)->∃ vf ob,Nu vf/\∀ H2,f H2=some (.val (vf H2.n) (H2.new ob))
theorem ta (e:TypeId) (s:ByteArray):kI fun H=>fc P H e s:=by
 intro H v H1 h;simp only at h;unfold fc at h;split at h
 .rename_i hu
  exact ⟨_,.cells ((bl s).map fun c=> .int .u8 c.toNat) e 0 false true,.slice s.size (ff+1),fun H2=>by simp only [fc,hu]⟩
 .cases h
theorem wJ (e:TypeId):kI fun H=>fR P H e:=by
 intro H v H1 h;simp only at h;unfold fR at h;split at h
 .rename_i z hz
  exact ⟨_,.cells z.cells.toList e 0 true false,.ptr,fun H2=>by simp only [fR,bO,hz]⟩
 .cases h
theorem BU (e:TypeId) (v:Value):kI fun H=>o7 H e v:=by
 intro H v1 H1 h;simp only at h;unfold o7 at h;split at h
 .rename_i hz
  exact ⟨_,.cells v.cells.toList e 0 true false,.ptr,fun H2=>by simp only [o7,bO,hz,if_true]⟩
 .cases h
theorem nM (t:TypeId) (len:Nat) (ps:List (Nat×Value)):kI fun H=>aZ P H t len ps:=by
 intro H v H1 h;simp only at h;unfold aZ at h;split at h
 .rename_i e i he
  split at h
  .rename_i hc
   split at h
   .rename_i z hz
    split at h
    .rename_i hs
     split at h
     .rename_i cells hf
      exact ⟨_,.cells cells.toList e 0 true false,.slice len len,fun H2=>by simp only [aZ,bO,he,hc,if_true,hz,hs,hf]⟩
     .cases h
    .cases h
   .cases h
  .cases h
 .cases h
theorem qd (t:TypeId) (l c:Value):kI fun H=>cB P H t l c:=by
 intro H v H1 h;simp only at h;unfold cB at h;split at h
 .rename_i e i l c he
  split at h
  .rename_i hc
   split at h
   .rename_i z hz
    split at h
    .rename_i hs
     exact ⟨_,.cells (eY z.cells.toList c.toNat) e 0 true false,.slice l.toNat c.toNat,fun H2=>by simp only [cB,bO,he,hc,if_true,hz,hs]⟩
    .cases h
   .cases h
  .cases h
 .cases h
theorem tc (t:TypeId) (r:Option Value):kI fun H=>bZ P H t r:=by
 intro H v H1 h;simp only at h;unfold bZ at h;split at h
 .exact ⟨_,.map [] 0,.map,fun H2=>rfl⟩
 .split at h
  .rename_i hu
   exact ⟨_,.map [] 0,.map,fun H2=>by simp only [bZ,hu]⟩
  .cases h
theorem Ip {sf:Self} {ρ:Operand->Value} {o:Oper} (hk:kindOf P o= .fresh):kI fun H=>aG P sf ρ H o:=by
 have key:∀ (f:IH->Option az),(∀ H,aG P sf ρ H o=f H)->kI f->kI fun H=>aG P sf ρ H o:=by
  intro f e hf H v H1 h;simp only [e] at h ⊢;exact hf H v H1 h
 cases ho:o.op with
 |alloc e=>exact key _ (fun _=>by simp only [aG,ho]) (wJ (P:=P) e)
 |box e x=>exact key _ (fun _=>by simp only [aG,ho]) (BU e (ρ x))
 |buildSlice t len ps=>exact key _ (fun _=>by simp only [aG,ho]) (nM (P:=P) t len (ps.toList.map fun p=>(p.1,ρ p.2)))
 |makeSlice t l c=>exact key _ (fun _=>by simp only [aG,ho]) (qd (P:=P) t (ρ l) (ρ c))
 |makeMap t r=>exact key _ (fun _=>by simp only [aG,ho]) (tc (P:=P) t (r.map ρ))
 |convert src dst x=>
  simp only [kindOf,ho] at hk;split at hk
  .rename_i e hs hd
   intro H v H1 h;simp only [aG,ho,aQ,hs,hd] at h ⊢;split at h
   .rename_i s hx
    obtain ⟨vf,ob,h1,h2⟩:=ta (P:=P) e s H v H1 h;exact ⟨vf,ob,h1,h2⟩
   .cases h
  .cases hk
  .cases hk
 |call c=>
  obtain ⟨callee,args,ats⟩:=c;cases callee with
  |builtin b=>cases b<;>simp [kindOf,ho] at hk
  |value f=>simp [kindOf,ho] at hk
  |invoke r n=>simp [kindOf,ho] at hk
 |_=>simp [kindOf,ho] at hk
end Go.Iv
