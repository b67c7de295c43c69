/- Operations that ask nothing of the heap, or leave it as it is. -/
import Derived.Test.YtngcogkadpbonaaGreatDoorIvCode
set_option linter.unusedSimpArgs false
set_option linter.unusedVariables false
namespace Go.Iv
open Go
variable {P:Program} {H H':IH} {res:al}
def eL (f:IH->Option al):Prop:=∀ H res,f H=some res->∃ v,res= .val v H/\∀ H2,f H2=some (.val v H2)
theorem sw (c a b:Value):eL fun H=>fy H c a b:=by
 intro H res h;simp only [fy] at h ⊢;split at h
 ·cases h;exact ⟨_,rfl,fun _=>rfl⟩
 ·cases h
theorem g8 (x:Value):eL fun H=>bT H x:=by
 intro H res h;simp only [bT] at h ⊢;split at h
 ·cases h;exact ⟨_,rfl,fun _=>rfl⟩
 ·cases h;exact ⟨_,rfl,fun _=>rfl⟩
 ·cases h;exact ⟨_,rfl,fun _=>rfl⟩
 ·cases h
theorem Dq (op:UnOp) (a:Value):eL fun H=>x4 P H op a:=by
 intro H res h;simp only [x4] at h ⊢;split at h
 ·split at h
  ·cases h;exact ⟨_,rfl,fun _=>rfl⟩
  ·cases h
 ·split at h
  ·rename_i hr
   split at h
   ·rename_i hf;cases h;exact ⟨_,rfl,fun _=>by simp [hf]⟩
   ·cases h
  ·cases h
 ·cases h
theorem fW (s:TypeId) (x:Value) (f:Nat):eL fun H=>bE P H s x f:=by
 intro H res h;simp only [bE] at h ⊢;split at h
 ·rename_i hu
  split at h
  ·rename_i hf
   split at h
   ·rename_i hi
    split at h
    ·cases h
    ·rename_i hz;cases h;exact ⟨_,rfl,fun _=>by simp [hz]⟩
   ·cases h
  ·cases h
 ·cases h
theorem fw (o:Option Value):eL fun H=>valOf H o:=by
 intro H res h;simp only [valOf] at h ⊢;split at h
 ·cases h;exact ⟨_,rfl,fun _=>rfl⟩
 ·cases h
theorem oJ (t:TypeId) (x:Value) (f:Nat):eL fun H=>dZ P H t x f:=by
 intro H res h;simp only [dZ] at h ⊢;split at h
 ·rename_i hu
  split at h
  ·rename_i hf
   obtain ⟨v,h1,h2⟩:=fw _ H res h;exact ⟨v,h1,fun H2=>by have:=h2 H2;simp_all⟩
  ·cases h
 ·cases h
theorem fZ (t:TypeId) (x ix:Value):eL fun H=>bd P H t x ix:=by
 intro H res h;simp only [bd] at h ⊢;split at h
 ·rename_i hu
  split at h
  ·rename_i hi
   split at h
   ·rename_i hz;cases h;exact ⟨_,rfl,fun _=>by simp only [hz,if_true]⟩
   ·cases h
  ·cases h
 ·rename_i hu
  split at h
  ·rename_i hi
   split at h
   ·rename_i hz;cases h;exact ⟨_,rfl,fun _=>by simp only [hz,if_true]⟩
   ·cases h
  ·cases h
 ·cases h
theorem ky (t:TypeId) (x ix:Value):eL fun H=>ea P H t x ix:=by
 intro H res h;simp only [ea] at h ⊢;split at h
 ·rename_i hu
  split at h
  ·rename_i hz
   split at h
   ·rename_i hc;cases h;exact ⟨_,rfl,fun _=>by simp only [hz,if_true]⟩
   ·cases h
  ·cases h
 ·rename_i hu
  split at h
  ·rename_i hz
   split at h
   ·rename_i hi
    obtain ⟨v,h1,h2⟩:=fw _ H res h;exact ⟨v,h1,fun H2=>by simp only [hz,if_true];exact h2 H2⟩
   ·cases h
  ·cases h
 ·cases h
theorem iF (x:Value) (i:Nat):eL fun H=>cB H x i:=by
 intro H res h;simp only [cB] at h ⊢;split at h
 ·exact fw _ H res h
 ·cases h
theorem fS (t:TypeId) (v:Value):eL fun H=>bC P H t v:=by
 intro H res h;simp only [bC] at h ⊢;split at h
 ·cases h
 ·rename_i hu hn;cases h;exact ⟨_,rfl,fun _=>by simp only⟩
 ·cases h
theorem lj (t:TypeId) (ps:List (Nat×Value)):eL fun H=>dp P H t ps:=by
 intro H res h;simp only [dp] at h ⊢;split at h
 ·rename_i hok
  split at h
  ·rename_i hz
   split at h
   ·rename_i hu
    split at h
    ·rename_i hp
     split at h
     ·rename_i hf;cases h;exact ⟨_,rfl,fun _=>by simp only [hok,if_true]⟩
     ·cases h
    ·cases h
   ·rename_i hu
    split at h
    ·rename_i hp
     split at h
     ·rename_i hf;cases h;exact ⟨_,rfl,fun _=>by simp only [hok,if_true]⟩
     ·cases h
    ·cases h
   ·cases h
  ·cases h
 ·cases h
theorem fu (x:Value) (t:TypeId) (ok:Bool):eL fun H=>bj P H x t ok:=by
 intro H res h;simp only [bj] at h ⊢;split at h
 ·cases h
 ·rename_i hu hn
  split at h
  ·rename_i e
   cases h;exact ⟨_,rfl,fun _=>by simp_all⟩
  ·cases h
 ·cases h
theorem lG (t:TypeId) (x:Value) (lo hi mx:Option Value):eL fun H=>eg P H t x lo hi mx:=by
 intro H res h;simp only [eg] at h ⊢;split at h
 ·rename_i hu
  split at h
  ·rename_i hb
   split at h
   ·rename_i hl;cases h;exact ⟨_,rfl,fun _=>by simp only⟩
   ·cases h
  ·cases h
 ·rename_i hu
  split at h
  ·rename_i hi'
   split at h
   ·rename_i hs;cases h;exact ⟨_,rfl,fun _=>by simp only⟩
   ·cases h
  ·cases h
 ·rename_i hu
  split at h
  ·rename_i hi'
   split at h
   ·rename_i hn
    split at h
    ·rename_i hh
     split at h
     ·rename_i hl;cases h;exact ⟨_,rfl,fun _=>by simp only [hn,if_true]⟩
     ·cases h
    ·cases h
   ·cases h
  ·cases h
 ·cases h
theorem GW {sf:Self} {Z:Operand->Value} {o:Oper} (hk:kindOf P o= .pure):eL fun H=>aC P sf Z H o:=by
 intro H res h;simp only at h;have key:∀ (f:IH->Option al),(∀ H,aC P sf Z H o=f H)->eL f->∃ v,res= .val v H/\∀ H2,aC P sf Z H2 o=some (.val v H2):=by
  intro f e hf;rw [e] at h;obtain ⟨v,h1,h2⟩:=hf H res h;exact ⟨v,h1,fun H2=>by rw [e];exact h2 H2⟩
 cases ho:o.op with
 |move x=>exact key (fun H=>some (.val (Z x) H)) (fun _=>by simp only [aC,ho]) (fun H r h=>by cases h;exact ⟨_,rfl,fun _=>rfl⟩)
 |assign x=>exact key (fun H=>some (.val (Z x) H)) (fun _=>by simp only [aC,ho]) (fun H r h=>by cases h;exact ⟨_,rfl,fun _=>rfl⟩)
 |pick c a b=>exact key _ (fun _=>by simp only [aC,ho]) (sw (Z c) (Z a) (Z b))
 |nilCheck x=>exact key _ (fun _=>by simp only [aC,ho]) (g8 (Z x))
 |unOp op t x=>exact key _ (fun _=>by simp only [aC,ho]) (Dq (P:=P) op (Z x))
 |fieldAddr s x f=>exact key _ (fun _=>by simp only [aC,ho]) (fW (P:=P) s (Z x) f)
 |field t x f=>exact key _ (fun _=>by simp only [aC,ho]) (oJ (P:=P) t (Z x) f)
 |indexAddr t x ix=>exact key _ (fun _=>by simp only [aC,ho]) (fZ (P:=P) t (Z x) (Z ix))
 |index t x ix=>exact key _ (fun _=>by simp only [aC,ho]) (ky (P:=P) t (Z x) (Z ix))
 |extract x i=>exact key _ (fun _=>by simp only [aC,ho]) (iF (Z x) i)
 |slice t x lo hi mx=>exact key _ (fun _=>by simp only [aC,ho]) (lG (P:=P) t (Z x) (lo.map Z) (hi.map Z) (mx.map Z))
 |makeInterface t x=>exact key _ (fun _=>by simp only [aC,ho]) (fS (P:=P) t (Z x))
 |build t ps=>exact key _ (fun _=>by simp only [aC,ho]) (lj (P:=P) t (ps.toList.map fun p=>(p.1,Z p.2)))
 |typeAssert x t asserted ok=>exact key _ (fun _=>by simp only [aC,ho]) (fu (P:=P) (Z x) asserted ok)
 |makeFunc fn first captured=>
  by_cases hp:bY fn=true
  ·exact key (fun H=>some (.val (.func fn ⟨first.toList.map Z⟩ ⟨captured.toList.map Z⟩) H)) (fun _=>by simp only [aC,ho,hp,if_true]) (fun H r h=>by cases h;exact ⟨_,rfl,fun _=>rfl⟩)
  ·simp only [aC,ho] at h
   rw [if_neg hp] at h;cases h
 |convert a b x=>
  simp only [kindOf,ho] at hk;split at hk<;>cases hk
 |call c=>
  obtain ⟨callee,args,ats⟩:=c;cases callee with
  |builtin b=>cases b<;>simp [kindOf,ho] at hk
  |value f=>simp [kindOf,ho] at hk
  |invoke r n=>simp [kindOf,ho] at hk
 |_=>simp [kindOf,ho] at hk
def ew (f:IH->Option al):Prop:=∀ H v H1,f H=some (.val v H1)->H1=H
theorem nC (t:TypeId) (a:Value):ew fun H=>eI P H t a:=by
 intro H v H1 h;simp only [eI] at h;split at h
 ·split at h
  ·cases h;rfl
  ·cases h
 ·cases h
theorem iH (t:TypeId) (x k:Value) (ok:Bool):ew fun H=>da P H t x k ok:=by
 intro H v H1 h;simp only [da] at h;split at h
 ·split at h
  ·split at h
   ·split at h
    ·cases h;rfl
    ·split at h
     ·cases h;rfl
     ·cases h
    ·cases h
   ·cases h
  ·cases h
 ·split at h
  ·split at h
   ·cases h;rfl
   ·cases h
  ·cases h
 ·cases h
theorem fO (neg:Bool) (t:TypeId) (x y:Operand) (a b:Value):ew fun H=>cV P H neg t x y a b:=by
 intro H v H1 h;simp only [cV] at h;split at h
 ·split at h
  ·cases h;rfl
  ·cases h
 ·cases h;rfl
 ·split at h
  ·cases h;rfl
  ·split at h
   ·split at h
    ·split at h
     ·cases h;rfl
     ·cases h
    ·cases h
   ·cases h
theorem so (op:BinOp) (t:TypeId) (x y:Operand) (a b:Value):ew fun H=>aI P H op t x y a b:=by
 intro H v H1 h;simp only [aI] at h;split at h
 ·exact fO _ _ _ _ _ _ H v H1 h
 ·exact fO _ _ _ _ _ _ H v H1 h
 all_goals first
  |(
    split at h
    ·split at h
     ·cases h;rfl
     ·cases h
    ·cases h;rfl
    ·cases h)
  |(
    split at h
    ·split at h
     ·cases h;rfl
     ·cases h
    ·split at h
     ·cases h;rfl
     ·cases h
    ·cases h)
  |(
    split at h
    ·split at h
     ·cases h;rfl
     ·cases h
    ·cases h)
  |(
    split at h
    ·split at h
     ·split at h
      ·cases h;rfl
      ·cases h
     ·cases h
    ·cases h)
theorem dz (s:Sem Value):ew fun H=>bV P H s:=by
 intro H v H1 h;simp only [bV] at h;split at h
 ·split at h
  ·cases h;rfl
  ·cases h
 ·cases h
theorem gk (e:TypeId) (x:Value):ew fun H=>cL P H e x:=by
 intro H v H1 h;simp only [cL] at h;split at h
 ·cases h;rfl
 ·split at h
  ·cases h;rfl
  ·split at h
   ·split at h
    ·cases h;rfl
    ·cases h
   ·cases h
 ·cases h
theorem fY (t:TypeId) (x:Value):ew fun H=>cF P H t x:=by
 intro H v H1 h;simp only [cF] at h;split at h
 ·cases h;rfl
 ·split at h
  ·split at h
   ·cases h;rfl
   ·cases h
  ·cases h
 ·cases h
theorem eQ (t:TypeId) (x:Value):ew fun H=>bL P H t x:=by
 intro H v H1 h;simp only [bL] at h;split at h
 ·cases h;rfl
 ·split at h
  ·split at h
   ·cases h;rfl
   ·cases h
  ·cases h
 ·cases h
end Go.Iv
/- Operations that leave the heap as it is, or lay one new block (the second part). -/
namespace Go.Iv
open Go
variable {P:Program} {H H':IH} {res:al}
theorem gY {src dst:TypeId} (h1:∀ e,¬ (P.underlying src=some .string/\P.underlying dst=some (.slice e))) (h2:∀ e e',¬ (P.underlying src=some (.slice e)/\P.underlying dst=some (.slice e'))) (x:Value):
  ew fun H=>bX P H src dst x:=by
 intro H v H1 h;simp only [bX] at h;split at h
 ·split at h
  ·cases h;rfl
  ·cases h
 ·split at h
  ·cases h;rfl
  ·cases h
 ·split at h
  ·cases h;rfl
  ·cases h
 ·rename_i hs hd;exact absurd ⟨hs,hd⟩ (h1 _)
 ·rename_i hs hd;exact absurd ⟨hs,hd⟩ (h2 _ _)
 ·exact gk _ _ H v H1 h
 ·exact fY _ _ H v H1 h
 ·exact eQ _ _ H v H1 h
 ·cases h
theorem zE {sf:Self} {Z:Operand->Value} {o:Oper} (hk:kindOf P o= .read):ew fun H=>aC P sf Z H o:=by
 intro H v H1 h;simp only at h;cases ho:o.op with
 |load t a=>simp only [aC,ho] at h;exact nC _ _ H v H1 h
 |lookup t x k ok=>simp only [aC,ho] at h;exact iH _ _ _ _ H v H1 h
 |binOp op t x y yt=>simp only [aC,ho] at h;exact so _ _ _ _ _ _ H v H1 h
 |convert src dst x=>
  simp only [aC,ho] at h;refine gY (fun e he=>?_) (fun e e' he=>?_) _ H v H1 h
  ·simp only [kindOf,ho,he.1,he.2] at hk;cases hk
  ·simp only [kindOf,ho,he.1,he.2] at hk;cases hk
 |call c=>
  obtain ⟨callee,args,ats⟩:=c;cases callee with
  |builtin b=>
   simp only [aC,ho,cJ] at h;unfold bD at h;split at h
   ·simp [kindOf,ho] at hk
   ·split at h
    ·unfold valOf at h;split at h
     ·cases h;rfl
     ·cases h
    ·cases h
   ·split at h
    ·split at h
     ·split at h
      ·cases h
      ·cases h;rfl
     ·cases h
    ·cases h
   ·simp [kindOf,ho] at hk
   ·split at h
    ·exact dz _ H v H1 h
    ·cases h
   ·split at h
    ·exact dz _ H v H1 h
    ·cases h
   ·cases h;rfl
   ·split at h
    ·cases h
    ·cases h;rfl
   ·simp [kindOf,ho] at hk
   ·cases h
  |value f=>simp [kindOf,ho] at hk
  |invoke r n=>simp [kindOf,ho] at hk
 |_=>simp [kindOf,ho] at hk
theorem iy {o:Oper} (hk:kindOf P o≠ .chain):bh o=true/\∀ c,o.op≠ .defer c:=by
 cases ho:o.op with
 |call c=>
  obtain ⟨callee,args,ats⟩:=c;cases callee with
  |builtin b=>exact ⟨by simp [bh,ho],fun c e=>by cases e⟩
  |value f=>exact absurd (by simp [kindOf,ho]) hk
  |invoke r n=>exact absurd (by simp [kindOf,ho]) hk
 |defer c=>exact absurd (by simp [kindOf,ho]) hk
 |_=>exact ⟨by simp [bh,ho],fun c e=>by cases e⟩
inductive Cn:(Nat->Value)->Prop
 |ptr:Cn ptrTo
 |slice (l c:Nat):Cn fun n=> .slice (some ⟨n,0,none⟩) l c
 |map:Cn fun n=> .map (some n)
def dm (f:IH->Option al):Prop:=∀ H v H1,f H=some (.val v H1)->∃ vf ob,Cn vf/\∀ H2,f H2=some (.val (vf H2.n) (H2.new ob))
theorem fX (e:TypeId) (s:ByteArray):dm fun H=>cA P H e s:=by
 intro H v H1 h;simp only at h;unfold cA at h;split at h
 ·rename_i hu
  exact ⟨_,.cells ((bl s).map fun c=> .int .u8 c.toNat) e 0 false true,.slice s.size (hY+1),fun H2=>by simp only [cA,hu]⟩
 ·cases h
theorem iC (e:TypeId):dm fun H=>dq P H e:=by
 intro H v H1 h;simp only at h;unfold dq at h;split at h
 ·rename_i z hz
  exact ⟨_,.cells z.cells.toList e 0 true false,.ptr,fun H2=>by simp only [dq,a4,hz]⟩
 ·cases h
theorem k9 (e:TypeId) (v:Value):dm fun H=>gM H e v:=by
 intro H v1 H1 h;simp only at h;unfold gM at h;split at h
 ·rename_i hz
  exact ⟨_,.cells v.cells.toList e 0 true false,.ptr,fun H2=>by simp only [gM,a4,hz,if_true]⟩
 ·cases h
theorem eG (t:TypeId) (len:Nat) (ps:List (Nat×Value)):dm fun H=>aZ P H t len ps:=by
 intro H v H1 h;simp only at h;unfold aZ at h;split at h
 ·rename_i e i he
  split at h
  ·rename_i hc
   split at h
   ·rename_i z hz
    split at h
    ·rename_i hs
     split at h
     ·rename_i cells hf
      exact ⟨_,.cells cells.toList e 0 true false,.slice len len,fun H2=>by simp only [aZ,a4,he,hc,if_true,hz,hs,hf]⟩
     ·cases h
    ·cases h
   ·cases h
  ·cases h
 ·cases h
theorem fk (t:TypeId) (l c:Value):dm fun H=>a9 P H t l c:=by
 intro H v H1 h;simp only at h;unfold a9 at h;split at h
 ·rename_i e i l c he
  split at h
  ·rename_i hc
   split at h
   ·rename_i z hz
    split at h
    ·rename_i hs
     exact ⟨_,.cells (c0 z.cells.toList c.toNat) e 0 true false,.slice l.toNat c.toNat,fun H2=>by simp only [a9,a4,he,hc,if_true,hz,hs]⟩
    ·cases h
   ·cases h
  ·cases h
 ·cases h
theorem gm (t:TypeId) (r:Option Value):dm fun H=>bW P H t r:=by
 intro H v H1 h;simp only at h;unfold bW at h;split at h
 ·exact ⟨_,.map [] 0,.map,fun H2=>rfl⟩
 ·split at h
  ·rename_i hu
   exact ⟨_,.map [] 0,.map,fun H2=>by simp only [bW,hu]⟩
  ·cases h
theorem Bo {sf:Self} {Z:Operand->Value} {o:Oper} (hk:kindOf P o= .fresh):dm fun H=>aC P sf Z H o:=by
 have key:∀ (f:IH->Option al),(∀ H,aC P sf Z H o=f H)->dm f->dm fun H=>aC P sf Z H o:=by
  intro f e hf H v H1 h;simp only [e] at h ⊢;exact hf H v H1 h
 cases ho:o.op with
 |alloc e=>exact key _ (fun _=>by simp only [aC,ho]) (iC (P:=P) e)
 |box e x=>exact key _ (fun _=>by simp only [aC,ho]) (k9 e (Z x))
 |buildSlice t len ps=>exact key _ (fun _=>by simp only [aC,ho]) (eG (P:=P) t len (ps.toList.map fun p=>(p.1,Z p.2)))
 |makeSlice t l c=>exact key _ (fun _=>by simp only [aC,ho]) (fk (P:=P) t (Z l) (Z c))
 |makeMap t r=>exact key _ (fun _=>by simp only [aC,ho]) (gm (P:=P) t (r.map Z))
 |convert src dst x=>
  simp only [kindOf,ho] at hk;split at hk
  ·rename_i e hs hd
   intro H v H1 h;simp only [aC,ho,bX,hs,hd] at h ⊢;split at h
   ·rename_i s hx
    obtain ⟨vf,ob,h1,h2⟩:=fX (P:=P) e s H v H1 h;exact ⟨vf,ob,h1,h2⟩
   ·cases h
  ·cases hk
  ·cases hk
 |call c=>
  obtain ⟨callee,args,ats⟩:=c;cases callee with
  |builtin b=>cases b<;>simp [kindOf,ho] at hk
  |value f=>simp [kindOf,ho] at hk
  |invoke r n=>simp [kindOf,ho] at hk
 |_=>simp [kindOf,ho] at hk
end Go.Iv
