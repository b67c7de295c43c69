/- Operations that ask nothing of the heap, or leave it as it is. -/
import Derived.Test.YtnddpppljnjmcaaGreatDoorIvCode
set_option linter.unusedSimpArgs false
set_option linter.unusedVariables false
namespace Go.Iv
open Go
variable {P:Program} {H H':IH} {res:aq}
def mM (f:IH→Option aq):Prop:=∀ H res,f H=some res→∃ v,res= .val v H∧∀ H2,f H2=some (.val v H2)
theorem HB (c a b:Value):mM fun H=>mN H c a b:=by
 intro H res h
 simp only [mN] at h ⊢
 split at h
 ·cases h;exact ⟨_,rfl,fun _=>rfl⟩
 ·cases h
theorem ua (x:Value):mM fun H=>ec H x:=by
 intro H res h
 simp only [ec] at h ⊢
 split at h
 ·cases h;exact ⟨_,rfl,fun _=>rfl⟩
 ·cases h;exact ⟨_,rfl,fun _=>rfl⟩
 ·cases h;exact ⟨_,rfl,fun _=>rfl⟩
 ·cases h
theorem Mh (op:UnOp) (a:Value):mM fun H=>G5 P H op a:=by
 intro H res h
 simp only [G5] at h ⊢
 split at h
 ·split at h
  ·cases h;exact ⟨_,rfl,fun _=>rfl⟩
  ·cases h
 ·split at h
  ·rename_i hr
   split at h
   ·rename_i hf;cases h;exact ⟨_,rfl,fun _=>by simp [hf]⟩
   ·cases h
  ·cases h
 ·cases h
theorem sF (s:TypeId) (x:Value) (f:Nat):mM fun H=>cp P H s x f:=by
 intro H res h
 simp only [cp] at h ⊢
 split at h
 ·rename_i hu
  split at h
  ·rename_i hf
   split at h
   ·rename_i hi
    split at h
    ·cases h
    ·rename_i hz;cases h;exact ⟨_,rfl,fun _=>by simp [hz]⟩
   ·cases h
  ·cases h
 ·cases h
theorem qg (o:Option Value):mM fun H=>valOf H o:=by
 intro H res h
 simp only [valOf] at h ⊢
 split at h
 ·cases h;exact ⟨_,rfl,fun _=>rfl⟩
 ·cases h
theorem D6 (t:TypeId) (x:Value) (f:Nat):mM fun H=>iM P H t x f:=by
 intro H res h
 simp only [iM] at h ⊢
 split at h
 ·rename_i hu
  split at h
  ·rename_i hf
   obtain ⟨v,h1,h2⟩:=qg _ H res h
   exact ⟨v,h1,fun H2=>by have:=h2 H2;simp_all⟩
  ·cases h
 ·cases h
theorem sU (t:TypeId) (x ix:Value):mM fun H=>bo P H t x ix:=by
 intro H res h
 simp only [bo] at h ⊢
 split at h
 ·rename_i hu
  split at h
  ·rename_i hi
   split at h
   ·rename_i hz;cases h;exact ⟨_,rfl,fun _=>by simp only [hz,if_true]⟩
   ·cases h
  ·cases h
 ·rename_i hu
  split at h
  ·rename_i hi
   split at h
   ·rename_i hz;cases h;exact ⟨_,rfl,fun _=>by simp only [hz,if_true]⟩
   ·cases h
  ·cases h
 ·cases h
theorem CC (t:TypeId) (x ix:Value):mM fun H=>gS P H t x ix:=by
 intro H res h
 simp only [gS] at h ⊢
 split at h
 ·rename_i hu
  split at h
  ·rename_i hz
   split at h
   ·rename_i hc;cases h;exact ⟨_,rfl,fun _=>by simp only [hz,if_true]⟩
   ·cases h
  ·cases h
 ·rename_i hu
  split at h
  ·rename_i hz
   split at h
   ·rename_i hi
    obtain ⟨v,h1,h2⟩:=qg _ H res h
    exact ⟨v,h1,fun H2=>by simp only [hz,if_true];exact h2 H2⟩
   ·cases h
  ·cases h
 ·cases h
theorem xz (x:Value) (i:Nat):mM fun H=>eW H x i:=by
 intro H res h
 simp only [eW] at h ⊢
 split at h
 ·exact qg _ H res h
 ·cases h
theorem ss (t:TypeId) (v:Value):mM fun H=>fx P H t v:=by
 intro H res h
 simp only [fx] at h ⊢
 split at h
 ·cases h
 ·rename_i hu hn;cases h;exact ⟨_,rfl,fun _=>by simp only⟩
 ·cases h
theorem B9 (t:TypeId) (ps:List (Nat×Value)):mM fun H=>iR P H t ps:=by
 intro H res h
 simp only [iR] at h ⊢
 split at h
 ·rename_i hok
  split at h
  ·rename_i hz
   split at h
   ·rename_i hu
    split at h
    ·rename_i hp
     split at h
     ·rename_i hf;cases h;exact ⟨_,rfl,fun _=>by simp only [hok,if_true]⟩
     ·cases h
    ·cases h
   ·rename_i hu
    split at h
    ·rename_i hp
     split at h
     ·rename_i hf;cases h;exact ⟨_,rfl,fun _=>by simp only [hok,if_true]⟩
     ·cases h
    ·cases h
   ·cases h
  ·cases h
 ·cases h
theorem ql (x:Value) (t:TypeId) (ok:Bool):mM fun H=>eD P H x t ok:=by
 intro H res h
 simp only [eD] at h ⊢
 split at h
 ·cases h
 ·rename_i hu hn
  split at h
  ·rename_i e
   cases h
   exact ⟨_,rfl,fun _=>by simp_all⟩
  ·cases h
 ·cases h
theorem EI (t:TypeId) (x:Value) (lo hi mx:Option Value):mM fun H=>cC P H t x lo hi mx:=by
 intro H res h
 simp only [cC] at h ⊢
 split at h
 ·rename_i hu
  split at h
  ·rename_i hb
   split at h
   ·rename_i hl;cases h;exact ⟨_,rfl,fun _=>by simp only⟩
   ·cases h
  ·cases h
 ·rename_i hu
  split at h
  ·rename_i hi'
   split at h
   ·rename_i hs;cases h;exact ⟨_,rfl,fun _=>by simp only⟩
   ·cases h
  ·cases h
 ·rename_i hu
  split at h
  ·rename_i hi'
   split at h
   ·rename_i hn
    split at h
    ·rename_i hh
     split at h
     ·rename_i hl;cases h;exact ⟨_,rfl,fun _=>by simp only [hn,if_true]⟩
     ·cases h
    ·cases h
   ·cases h
  ·cases h
 ·cases h
theorem oy {sf:Self} {ρ:Operand→Value} {o:Oper} (hk:kindOf P o= .pure):mM fun H=>aJ P sf ρ H o:=by
 intro H res h
 simp only at h
 have key:∀ (f:IH→Option aq),(∀ H,aJ P sf ρ H o=f H)→mM f→∃ v,res= .val v H∧∀ H2,aJ P sf ρ H2 o=some (.val v H2):=by
  intro f e hf
  rw [e] at h
  obtain ⟨v,h1,h2⟩:=hf H res h
  exact ⟨v,h1,fun H2=>by rw [e];exact h2 H2⟩
 cases ho:o.op with
 |move x=>exact key (fun H=>some (.val (ρ x) H)) (fun _=>by simp only [aJ,ho]) (fun H r h=>by cases h;exact ⟨_,rfl,fun _=>rfl⟩)
 |assign x=>exact key (fun H=>some (.val (ρ x) H)) (fun _=>by simp only [aJ,ho]) (fun H r h=>by cases h;exact ⟨_,rfl,fun _=>rfl⟩)
 |pick c a b=>exact key _ (fun _=>by simp only [aJ,ho]) (HB (ρ c) (ρ a) (ρ b))
 |nilCheck x=>exact key _ (fun _=>by simp only [aJ,ho]) (ua (ρ x))
 |unOp op t x=>exact key _ (fun _=>by simp only [aJ,ho]) (Mh (P:=P) op (ρ x))
 |fieldAddr s x f=>exact key _ (fun _=>by simp only [aJ,ho]) (sF (P:=P) s (ρ x) f)
 |field t x f=>exact key _ (fun _=>by simp only [aJ,ho]) (D6 (P:=P) t (ρ x) f)
 |indexAddr t x ix=>exact key _ (fun _=>by simp only [aJ,ho]) (sU (P:=P) t (ρ x) (ρ ix))
 |index t x ix=>exact key _ (fun _=>by simp only [aJ,ho]) (CC (P:=P) t (ρ x) (ρ ix))
 |extract x i=>exact key _ (fun _=>by simp only [aJ,ho]) (xz (ρ x) i)
 |slice t x lo hi mx=>exact key _ (fun _=>by simp only [aJ,ho]) (EI (P:=P) t (ρ x) (lo.map ρ) (hi.map ρ) (mx.map ρ))
 |makeInterface t x=>exact key _ (fun _=>by simp only [aJ,ho]) (ss (P:=P) t (ρ x))
 |build t ps=>exact key _ (fun _=>by simp only [aJ,ho]) (B9 (P:=P) t (ps.toList.map fun p=>(p.1,ρ p.2)))
 |typeAssert x t asserted ok=>exact key _ (fun _=>by simp only [aJ,ho]) (ql (P:=P) (ρ x) asserted ok)
 |makeFunc fn first captured=>
  by_cases hp:ff fn=true
  ·exact key (fun H=>some (.val (.func fn ⟨first.toList.map ρ⟩ ⟨captured.toList.map ρ⟩) H)) (fun _=>by simp only [aJ,ho,hp,if_true]) (fun H r h=>by cases h;exact ⟨_,rfl,fun _=>rfl⟩)
  ·simp only [aJ,ho] at h
   rw [if_neg hp] at h
   cases h
 |convert a b x=>
  simp only [kindOf,ho] at hk
  split at hk<;>cases hk
 |call c=>
  obtain ⟨callee,args,ats⟩:=c
  cases callee with
  |builtin b=>cases b<;>simp [kindOf,ho] at hk
  |value f=>simp [kindOf,ho] at hk
  |invoke r n=>simp [kindOf,ho] at hk
 |_=>simp [kindOf,ho] at hk
def lT (f:IH→Option aq):Prop:=∀ H v H1,f H=some (.val v H1)→H1=H
theorem CI (t:TypeId) (a:Value):lT fun H=>eg P H t a:=by
 intro H v H1 h
 simp only [eg] at h
 split at h
 ·split at h
  ·cases h;rfl
  ·cases h
 ·cases h
theorem xv (t:TypeId) (x k:Value) (ok:Bool):lT fun H=>bH P H t x k ok:=by
 intro H v H1 h
 simp only [bH] at h
 split at h
 ·split at h
  ·split at h
   ·split at h
    ·cases h;rfl
    ·split at h
     ·cases h;rfl
     ·cases h
    ·cases h
   ·cases h
  ·cases h
 ·split at h
  ·split at h
   ·cases h;rfl
   ·cases h
  ·cases h
 ·cases h
theorem rj (neg:Bool) (t:TypeId) (x y:Operand) (a b:Value):lT fun H=>bY P H neg t x y a b:=by
 intro H v H1 h
 simp only [bY] at h
 split at h
 ·split at h
  ·cases h;rfl
  ·cases h
 ·cases h;rfl
 ·split at h
  ·cases h;rfl
  ·split at h
   ·split at h
    ·split at h
     ·cases h;rfl
     ·cases h
    ·cases h
   ·cases h
theorem Gm (op:BinOp) (t:TypeId) (x y:Operand) (a b:Value):lT fun H=>aY P H op t x y a b:=by
 intro H v H1 h
 simp only [aY] at h
 split at h
 ·exact rj _ _ _ _ _ _ H v H1 h
 ·exact rj _ _ _ _ _ _ H v H1 h
 all_goals first
  |(
    split at h
    ·split at h
     ·cases h;rfl
     ·cases h
    ·cases h;rfl
    ·cases h)
  |(
    split at h
    ·split at h
     ·cases h;rfl
     ·cases h
    ·split at h
     ·cases h;rfl
     ·cases h
    ·cases h)
  |(
    split at h
    ·split at h
     ·cases h;rfl
     ·cases h
    ·cases h)
  |(
    split at h
    ·split at h
     ·split at h
      ·cases h;rfl
      ·cases h
     ·cases h
    ·cases h)
theorem jF (s:Sem Value):lT fun H=>bZ P H s:=by
 intro H v H1 h
 simp only [bZ] at h
 split at h
 ·split at h
  ·cases h;rfl
  ·cases h
 ·cases h
theorem sE (e:TypeId) (x:Value):lT fun H=>cB P H e x:=by
 intro H v H1 h
 simp only [cB] at h
 split at h
 ·cases h;rfl
 ·split at h
  ·cases h;rfl
  ·split at h
   ·split at h
    ·cases h;rfl
    ·cases h
   ·cases h
 ·cases h
theorem sb (t:TypeId) (x:Value):lT fun H=>da P H t x:=by
 intro H v H1 h
 simp only [da] at h
 split at h
 ·cases h;rfl
 ·split at h
  ·split at h
   ·cases h;rfl
   ·cases h
  ·cases h
 ·cases h
theorem nD (t:TypeId) (x:Value):lT fun H=>cg P H t x:=by
 intro H v H1 h
 simp only [cg] at h
 split at h
 ·cases h;rfl
 ·split at h
  ·split at h
   ·cases h;rfl
   ·cases h
  ·cases h
 ·cases h
end Go.Iv
/- Operations that leave the heap as it is, or lay one new block (the second part). -/
namespace Go.Iv
open Go
variable {P:Program} {H H':IH} {res:aq}
theorem uR {src dst:TypeId} (h1:∀ e,¬ (P.underlying src=some .string∧P.underlying dst=some (.slice e))) (h2:∀ e e',¬ (P.underlying src=some (.slice e)∧P.underlying dst=some (.slice e'))) (x:Value):
  lT fun H=>aS P H src dst x:=by
 intro H v H1 h
 simp only [aS] at h
 split at h
 ·split at h
  ·cases h;rfl
  ·cases h
 ·split at h
  ·cases h;rfl
  ·cases h
 ·split at h
  ·cases h;rfl
  ·cases h
 ·rename_i hs hd;exact absurd ⟨hs,hd⟩ (h1 _)
 ·rename_i hs hd;exact absurd ⟨hs,hd⟩ (h2 _ _)
 ·exact sE _ _ H v H1 h
 ·exact sb _ _ H v H1 h
 ·exact nD _ _ H v H1 h
 ·cases h
theorem yL {sf:Self} {ρ:Operand→Value} {o:Oper} (hk:kindOf P o= .read):lT fun H=>aJ P sf ρ H o:=by
 intro H v H1 h
 simp only at h
 cases ho:o.op with
 |load t a=>simp only [aJ,ho] at h;exact CI _ _ H v H1 h
 |lookup t x k ok=>simp only [aJ,ho] at h;exact xv _ _ _ _ H v H1 h
 |binOp op t x y yt=>simp only [aJ,ho] at h;exact Gm _ _ _ _ _ _ H v H1 h
 |convert src dst x=>
  simp only [aJ,ho] at h
  refine uR (fun e he=>?_) (fun e e' he=>?_) _ H v H1 h
  ·simp only [kindOf,ho,he.1,he.2] at hk;cases hk
  ·simp only [kindOf,ho,he.1,he.2] at hk;cases hk
 |call c=>
  obtain ⟨callee,args,ats⟩:=c
  cases callee with
  |builtin b=>
   simp only [aJ,ho,dh] at h
   unfold bg at h
   split at h
   ·simp [kindOf,ho] at hk
   ·split at h
    ·unfold valOf at h;split at h
     ·cases h;rfl
     ·cases h
    ·cases h
   ·split at h
    ·split at h
     ·split at h
      ·cases h
      ·cases h;rfl
     ·cases h
    ·cases h
   ·simp [kindOf,ho] at hk
   ·split at h
    ·exact jF _ H v H1 h
    ·cases h
   ·split at h
    ·exact jF _ H v H1 h
    ·cases h
   ·cases h;rfl
   ·split at h
    ·cases h
    ·cases h;rfl
   ·simp [kindOf,ho] at hk
   ·cases h
  |value f=>simp [kindOf,ho] at hk
  |invoke r n=>simp [kindOf,ho] at hk
 |_=>simp [kindOf,ho] at hk
theorem xg {o:Oper} (hk:kindOf P o≠ .chain):dI o=true∧∀ c,o.op≠ .defer c:=by
 cases ho:o.op with
 |call c=>
  obtain ⟨callee,args,ats⟩:=c
  cases callee with
  |builtin b=>exact ⟨by simp [dI,ho],fun c e=>by cases e⟩
  |value f=>exact absurd (by simp [kindOf,ho]) hk
  |invoke r n=>exact absurd (by simp [kindOf,ho]) hk
 |defer c=>exact absurd (by simp [kindOf,ho]) hk
 |_=>exact ⟨by simp [dI,ho],fun c e=>by cases e⟩
inductive N3:(Nat→Value)→Prop
 |ptr:N3 ptrTo
 |slice (l c:Nat):N3 fun n=> .slice (some ⟨n,0,none⟩) l c
 |map:N3 fun n=> .map (some n)
def iO (f:IH→Option aq):Prop:=∀ H v H1,f H=some (.val v H1)→∃ vf ob,N3 vf∧∀ H2,f H2=some (.val (vf H2.n) (H2.new ob))
theorem sX (e:TypeId) (s:ByteArray):iO fun H=>eu P H e s:=by
 intro H v H1 h
 simp only at h
 unfold eu at h
 split at h
 ·rename_i hu
  exact ⟨_,.cells ((bl s).map fun c=> .int .u8 c.toNat) e 0 false true,.slice s.size (fC+1),fun H2=>by simp only [eu,hu]⟩
 ·cases h
theorem xr (e:TypeId):iO fun H=>fc P H e:=by
 intro H v H1 h
 simp only at h
 unfold fc at h
 split at h
 ·rename_i z hz
  exact ⟨_,.cells z.cells.toList e 0 true false,.ptr,fun H2=>by simp only [fc,bR,hz]⟩
 ·cases h
theorem C0 (e:TypeId) (v:Value):iO fun H=>nM H e v:=by
 intro H v1 H1 h
 simp only at h
 unfold nM at h
 split at h
 ·rename_i hz
  exact ⟨_,.cells v.cells.toList e 0 true false,.ptr,fun H2=>by simp only [nM,bR,hz,if_true]⟩
 ·cases h
theorem mw (t:TypeId) (len:Nat) (ps:List (Nat×Value)):iO fun H=>bc P H t len ps:=by
 intro H v H1 h
 simp only at h
 unfold bc at h
 split at h
 ·rename_i e i he
  split at h
  ·rename_i hc
   split at h
   ·rename_i z hz
    split at h
    ·rename_i hs
     split at h
     ·rename_i cells hf
      exact ⟨_,.cells cells.toList e 0 true false,.slice len len,fun H2=>by simp only [bc,bR,he,hc,if_true,hz,hs,hf]⟩
     ·cases h
    ·cases h
   ·cases h
  ·cases h
 ·cases h
theorem oV (t:TypeId) (l c:Value):iO fun H=>bp P H t l c:=by
 intro H v H1 h
 simp only at h
 unfold bp at h
 split at h
 ·rename_i e i l c he
  split at h
  ·rename_i hc
   split at h
   ·rename_i z hz
    split at h
    ·rename_i hs
     exact ⟨_,.cells (dL z.cells.toList c.toNat) e 0 true false,.slice l.toNat c.toNat,fun H2=>by simp only [bp,bR,he,hc,if_true,hz,hs]⟩
    ·cases h
   ·cases h
  ·cases h
 ·cases h
theorem sG (t:TypeId) (r:Option Value):iO fun H=>aZ P H t r:=by
 intro H v H1 h
 simp only at h
 unfold aZ at h
 split at h
 ·exact ⟨_,.map [] 0,.map,fun H2=>rfl⟩
 ·split at h
  ·rename_i hu
   exact ⟨_,.map [] 0,.map,fun H2=>by simp only [aZ,hu]⟩
  ·cases h
theorem KD {sf:Self} {ρ:Operand→Value} {o:Oper} (hk:kindOf P o= .fresh):iO fun H=>aJ P sf ρ H o:=by
 have key:∀ (f:IH→Option aq),(∀ H,aJ P sf ρ H o=f H)→iO f→iO fun H=>aJ P sf ρ H o:=by
  intro f e hf H v H1 h
  simp only [e] at h ⊢
  exact hf H v H1 h
 cases ho:o.op with
 |alloc e=>exact key _ (fun _=>by simp only [aJ,ho]) (xr (P:=P) e)
 |box e x=>exact key _ (fun _=>by simp only [aJ,ho]) (C0 e (ρ x))
 |buildSlice t len ps=>exact key _ (fun _=>by simp only [aJ,ho]) (mw (P:=P) t len (ps.toList.map fun p=>(p.1,ρ p.2)))
 |makeSlice t l c=>exact key _ (fun _=>by simp only [aJ,ho]) (oV (P:=P) t (ρ l) (ρ c))
 |makeMap t r=>exact key _ (fun _=>by simp only [aJ,ho]) (sG (P:=P) t (r.map ρ))
 |convert src dst x=>
  simp only [kindOf,ho] at hk
  split at hk
  ·rename_i e hs hd
   intro H v H1 h
   simp only [aJ,ho,aS,hs,hd] at h ⊢
   split at h
   ·rename_i s hx
    obtain ⟨vf,ob,h1,h2⟩:=sX (P:=P) e s H v H1 h
    exact ⟨vf,ob,h1,h2⟩
   ·cases h
  ·cases hk
  ·cases hk
 |call c=>
  obtain ⟨callee,args,ats⟩:=c
  cases callee with
  |builtin b=>cases b<;>simp [kindOf,ho] at hk
  |value f=>simp [kindOf,ho] at hk
  |invoke r n=>simp [kindOf,ho] at hk
 |_=>simp [kindOf,ho] at hk
end Go.Iv
