/- Operations that ask nothing of the heap, or leave it as it is. -/
import Derived.Test.YtnddpppljnjmcaaGreatDoorIvCode
set_option linter.unusedSimpArgs false
set_option linter.unusedVariables false
namespace Go.Iv
open Go
variable {P:Program} {H H':IH} {res:OpRes}
def AnyH (f:IH→Option OpRes):Prop:=∀ H res,f H=some res→∃ v,res= .val v H∧∀ H2,f H2=some (.val v H2)
theorem evPick_any (c a b:Value):AnyH fun H=>evPick H c a b:=by
 intro H res h
 simp only [evPick] at h ⊢
 split at h
 ·cases h;exact ⟨_,rfl,fun _=>rfl⟩
 ·cases h
theorem evNilCheck_any (x:Value):AnyH fun H=>evNilCheck H x:=by
 intro H res h
 simp only [evNilCheck] at h ⊢
 split at h
 ·cases h;exact ⟨_,rfl,fun _=>rfl⟩
 ·cases h;exact ⟨_,rfl,fun _=>rfl⟩
 ·cases h;exact ⟨_,rfl,fun _=>rfl⟩
 ·cases h
theorem evUn_any (op:UnOp) (a:Value):AnyH fun H=>evUn P H op a:=by
 intro H res h
 simp only [evUn] at h ⊢
 split at h
 ·split at h
  ·cases h;exact ⟨_,rfl,fun _=>rfl⟩
  ·cases h
 ·split at h
  ·rename_i hr
   split at h
   ·rename_i hf;cases h;exact ⟨_,rfl,fun _=>by simp [hf]⟩
   ·cases h
  ·cases h
 ·cases h
theorem evFieldAddr_any (s:TypeId) (x:Value) (f:Nat):AnyH fun H=>evFieldAddr P H s x f:=by
 intro H res h
 simp only [evFieldAddr] at h ⊢
 split at h
 ·rename_i hu
  split at h
  ·rename_i hf
   split at h
   ·rename_i hi
    split at h
    ·cases h
    ·rename_i hz;cases h;exact ⟨_,rfl,fun _=>by simp [hz]⟩
   ·cases h
  ·cases h
 ·cases h
theorem valOf_any (o:Option Value):AnyH fun H=>valOf H o:=by
 intro H res h
 simp only [valOf] at h ⊢
 split at h
 ·cases h;exact ⟨_,rfl,fun _=>rfl⟩
 ·cases h
theorem evField_any (t:TypeId) (x:Value) (f:Nat):AnyH fun H=>evField P H t x f:=by
 intro H res h
 simp only [evField] at h ⊢
 split at h
 ·rename_i hu
  split at h
  ·rename_i hf
   obtain ⟨v,h1,h2⟩:=valOf_any _ H res h
   exact ⟨v,h1,fun H2=>by have:=h2 H2;simp_all⟩
  ·cases h
 ·cases h
theorem evIndexAddr_any (t:TypeId) (x ix:Value):AnyH fun H=>evIndexAddr P H t x ix:=by
 intro H res h
 simp only [evIndexAddr] at h ⊢
 split at h
 ·rename_i hu
  split at h
  ·rename_i hi
   split at h
   ·rename_i hz;cases h;exact ⟨_,rfl,fun _=>by simp only [hz,if_true]⟩
   ·cases h
  ·cases h
 ·rename_i hu
  split at h
  ·rename_i hi
   split at h
   ·rename_i hz;cases h;exact ⟨_,rfl,fun _=>by simp only [hz,if_true]⟩
   ·cases h
  ·cases h
 ·cases h
theorem evIndex_any (t:TypeId) (x ix:Value):AnyH fun H=>evIndex P H t x ix:=by
 intro H res h
 simp only [evIndex] at h ⊢
 split at h
 ·rename_i hu
  split at h
  ·rename_i hz
   split at h
   ·rename_i hc;cases h;exact ⟨_,rfl,fun _=>by simp only [hz,if_true]⟩
   ·cases h
  ·cases h
 ·rename_i hu
  split at h
  ·rename_i hz
   split at h
   ·rename_i hi
    obtain ⟨v,h1,h2⟩:=valOf_any _ H res h
    exact ⟨v,h1,fun H2=>by simp only [hz,if_true];exact h2 H2⟩
   ·cases h
  ·cases h
 ·cases h
theorem evExtract_any (x:Value) (i:Nat):AnyH fun H=>evExtract H x i:=by
 intro H res h
 simp only [evExtract] at h ⊢
 split at h
 ·exact valOf_any _ H res h
 ·cases h
theorem evMakeIface_any (t:TypeId) (v:Value):AnyH fun H=>evMakeIface P H t v:=by
 intro H res h
 simp only [evMakeIface] at h ⊢
 split at h
 ·cases h
 ·rename_i hu hn;cases h;exact ⟨_,rfl,fun _=>by simp only⟩
 ·cases h
theorem evBuild_any (t:TypeId) (ps:List (Nat×Value)):AnyH fun H=>evBuild P H t ps:=by
 intro H res h
 simp only [evBuild] at h ⊢
 split at h
 ·rename_i hok
  split at h
  ·rename_i hz
   split at h
   ·rename_i hu
    split at h
    ·rename_i hp
     split at h
     ·rename_i hf;cases h;exact ⟨_,rfl,fun _=>by simp only [hok,if_true]⟩
     ·cases h
    ·cases h
   ·rename_i hu
    split at h
    ·rename_i hp
     split at h
     ·rename_i hf;cases h;exact ⟨_,rfl,fun _=>by simp only [hok,if_true]⟩
     ·cases h
    ·cases h
   ·cases h
  ·cases h
 ·cases h
theorem evTypeAssert_any (x:Value) (t:TypeId) (ok:Bool):AnyH fun H=>evTypeAssert P H x t ok:=by
 intro H res h
 simp only [evTypeAssert] at h ⊢
 split at h
 ·cases h
 ·rename_i hu hn
  split at h
  ·rename_i e
   cases h
   exact ⟨_,rfl,fun _=>by simp_all⟩
  ·cases h
 ·cases h
theorem evSlice_any (t:TypeId) (x:Value) (lo hi mx:Option Value):AnyH fun H=>evSlice P H t x lo hi mx:=by
 intro H res h
 simp only [evSlice] at h ⊢
 split at h
 ·rename_i hu
  split at h
  ·rename_i hb
   split at h
   ·rename_i hl;cases h;exact ⟨_,rfl,fun _=>by simp only⟩
   ·cases h
  ·cases h
 ·rename_i hu
  split at h
  ·rename_i hi'
   split at h
   ·rename_i hs;cases h;exact ⟨_,rfl,fun _=>by simp only⟩
   ·cases h
  ·cases h
 ·rename_i hu
  split at h
  ·rename_i hi'
   split at h
   ·rename_i hn
    split at h
    ·rename_i hh
     split at h
     ·rename_i hl;cases h;exact ⟨_,rfl,fun _=>by simp only [hn,if_true]⟩
     ·cases h
    ·cases h
   ·cases h
  ·cases h
 ·cases h
theorem pure_any {sf:Self} {ρ:Operand→Value} {o:Oper} (hk:kindOf P o= .pure):AnyH fun H=>evOp P sf ρ H o:=by
 intro H res h
 simp only at h
 have key:∀ (f:IH→Option OpRes),(∀ H,evOp P sf ρ H o=f H)→AnyH f→∃ v,res= .val v H∧∀ H2,evOp P sf ρ H2 o=some (.val v H2):=by
  intro f e hf
  rw [e] at h
  obtain ⟨v,h1,h2⟩:=hf H res h
  exact ⟨v,h1,fun H2=>by rw [e];exact h2 H2⟩
 cases ho:o.op with
 |move x=>exact key (fun H=>some (.val (ρ x) H)) (fun _=>by simp only [evOp,ho]) (fun H r h=>by cases h;exact ⟨_,rfl,fun _=>rfl⟩)
 |assign x=>exact key (fun H=>some (.val (ρ x) H)) (fun _=>by simp only [evOp,ho]) (fun H r h=>by cases h;exact ⟨_,rfl,fun _=>rfl⟩)
 |pick c a b=>exact key _ (fun _=>by simp only [evOp,ho]) (evPick_any (ρ c) (ρ a) (ρ b))
 |nilCheck x=>exact key _ (fun _=>by simp only [evOp,ho]) (evNilCheck_any (ρ x))
 |unOp op t x=>exact key _ (fun _=>by simp only [evOp,ho]) (evUn_any (P:=P) op (ρ x))
 |fieldAddr s x f=>exact key _ (fun _=>by simp only [evOp,ho]) (evFieldAddr_any (P:=P) s (ρ x) f)
 |field t x f=>exact key _ (fun _=>by simp only [evOp,ho]) (evField_any (P:=P) t (ρ x) f)
 |indexAddr t x ix=>exact key _ (fun _=>by simp only [evOp,ho]) (evIndexAddr_any (P:=P) t (ρ x) (ρ ix))
 |index t x ix=>exact key _ (fun _=>by simp only [evOp,ho]) (evIndex_any (P:=P) t (ρ x) (ρ ix))
 |extract x i=>exact key _ (fun _=>by simp only [evOp,ho]) (evExtract_any (ρ x) i)
 |slice t x lo hi mx=>exact key _ (fun _=>by simp only [evOp,ho]) (evSlice_any (P:=P) t (ρ x) (lo.map ρ) (hi.map ρ) (mx.map ρ))
 |makeInterface t x=>exact key _ (fun _=>by simp only [evOp,ho]) (evMakeIface_any (P:=P) t (ρ x))
 |build t ps=>exact key _ (fun _=>by simp only [evOp,ho]) (evBuild_any (P:=P) t (ps.toList.map fun p=>(p.1,ρ p.2)))
 |typeAssert x t asserted ok=>exact key _ (fun _=>by simp only [evOp,ho]) (evTypeAssert_any (P:=P) (ρ x) asserted ok)
 |makeFunc fn first captured=>
  by_cases hp:plainFn fn=true
  ·exact key (fun H=>some (.val (.func fn ⟨first.toList.map ρ⟩ ⟨captured.toList.map ρ⟩) H)) (fun _=>by simp only [evOp,ho,hp,if_true]) (fun H r h=>by cases h;exact ⟨_,rfl,fun _=>rfl⟩)
  ·simp only [evOp,ho] at h
   rw [if_neg hp] at h
   cases h
 |convert a b x=>
  simp only [kindOf,ho] at hk
  split at hk<;>cases hk
 |call c=>
  obtain ⟨callee,args,ats⟩:=c
  cases callee with
  |builtin b=>cases b<;>simp [kindOf,ho] at hk
  |value f=>simp [kindOf,ho] at hk
  |invoke r n=>simp [kindOf,ho] at hk
 |_=>simp [kindOf,ho] at hk
def KeepH (f:IH→Option OpRes):Prop:=∀ H v H1,f H=some (.val v H1)→H1=H
theorem evLoad_keep (t:TypeId) (a:Value):KeepH fun H=>evLoad P H t a:=by
 intro H v H1 h
 simp only [evLoad] at h
 split at h
 ·split at h
  ·cases h;rfl
  ·cases h
 ·cases h
theorem evLookup_keep (t:TypeId) (x k:Value) (ok:Bool):KeepH fun H=>evLookup P H t x k ok:=by
 intro H v H1 h
 simp only [evLookup] at h
 split at h
 ·split at h
  ·split at h
   ·split at h
    ·cases h;rfl
    ·split at h
     ·cases h;rfl
     ·cases h
    ·cases h
   ·cases h
  ·cases h
 ·split at h
  ·split at h
   ·cases h;rfl
   ·cases h
  ·cases h
 ·cases h
theorem evEqOp_keep (neg:Bool) (t:TypeId) (x y:Operand) (a b:Value):KeepH fun H=>evEqOp P H neg t x y a b:=by
 intro H v H1 h
 simp only [evEqOp] at h
 split at h
 ·split at h
  ·cases h;rfl
  ·cases h
 ·cases h;rfl
 ·split at h
  ·cases h;rfl
  ·split at h
   ·split at h
    ·split at h
     ·cases h;rfl
     ·cases h
    ·cases h
   ·cases h
theorem evBin_keep (op:BinOp) (t:TypeId) (x y:Operand) (a b:Value):KeepH fun H=>evBin P H op t x y a b:=by
 intro H v H1 h
 simp only [evBin] at h
 split at h
 ·exact evEqOp_keep _ _ _ _ _ _ H v H1 h
 ·exact evEqOp_keep _ _ _ _ _ _ H v H1 h
 all_goals first
  |(
    split at h
    ·split at h
     ·cases h;rfl
     ·cases h
    ·cases h;rfl
    ·cases h)
  |(
    split at h
    ·split at h
     ·cases h;rfl
     ·cases h
    ·split at h
     ·cases h;rfl
     ·cases h
    ·cases h)
  |(
    split at h
    ·split at h
     ·cases h;rfl
     ·cases h
    ·cases h)
  |(
    split at h
    ·split at h
     ·split at h
      ·cases h;rfl
      ·cases h
     ·cases h
    ·cases h)
theorem evPlainRun_keep (s:Sem Value):KeepH fun H=>evPlainRun P H s:=by
 intro H v H1 h
 simp only [evPlainRun] at h
 split at h
 ·split at h
  ·cases h;rfl
  ·cases h
 ·cases h
theorem evToString_keep (e:TypeId) (x:Value):KeepH fun H=>evToString P H e x:=by
 intro H v H1 h
 simp only [evToString] at h
 split at h
 ·cases h;rfl
 ·split at h
  ·cases h;rfl
  ·split at h
   ·split at h
    ·cases h;rfl
    ·cases h
   ·cases h
 ·cases h
theorem evToUnsafe_keep (t:TypeId) (x:Value):KeepH fun H=>evToUnsafe P H t x:=by
 intro H v H1 h
 simp only [evToUnsafe] at h
 split at h
 ·cases h;rfl
 ·split at h
  ·split at h
   ·cases h;rfl
   ·cases h
  ·cases h
 ·cases h
theorem evFromUnsafe_keep (t:TypeId) (x:Value):KeepH fun H=>evFromUnsafe P H t x:=by
 intro H v H1 h
 simp only [evFromUnsafe] at h
 split at h
 ·cases h;rfl
 ·split at h
  ·split at h
   ·cases h;rfl
   ·cases h
  ·cases h
 ·cases h
end Go.Iv
/- Operations that leave the heap as it is, or lay one new block (the second part). -/
namespace Go.Iv
open Go
variable {P:Program} {H H':IH} {res:OpRes}
theorem evConvert_keep {src dst:TypeId} (h1:∀ e,¬ (P.underlying src=some .string∧P.underlying dst=some (.slice e))) (h2:∀ e e',¬ (P.underlying src=some (.slice e)∧P.underlying dst=some (.slice e'))) (x:Value):
  KeepH fun H=>evConvert P H src dst x:=by
 intro H v H1 h
 simp only [evConvert] at h
 split at h
 ·split at h
  ·cases h;rfl
  ·cases h
 ·split at h
  ·cases h;rfl
  ·cases h
 ·split at h
  ·cases h;rfl
  ·cases h
 ·rename_i hs hd;exact absurd ⟨hs,hd⟩ (h1 _)
 ·rename_i hs hd;exact absurd ⟨hs,hd⟩ (h2 _ _)
 ·exact evToString_keep _ _ H v H1 h
 ·exact evToUnsafe_keep _ _ H v H1 h
 ·exact evFromUnsafe_keep _ _ H v H1 h
 ·cases h
theorem read_keep {sf:Self} {ρ:Operand→Value} {o:Oper} (hk:kindOf P o= .read):KeepH fun H=>evOp P sf ρ H o:=by
 intro H v H1 h
 simp only at h
 cases ho:o.op with
 |load t a=>simp only [evOp,ho] at h;exact evLoad_keep _ _ H v H1 h
 |lookup t x k ok=>simp only [evOp,ho] at h;exact evLookup_keep _ _ _ _ H v H1 h
 |binOp op t x y yt=>simp only [evOp,ho] at h;exact evBin_keep _ _ _ _ _ _ H v H1 h
 |convert src dst x=>
  simp only [evOp,ho] at h
  refine evConvert_keep (fun e he=>?_) (fun e e' he=>?_) _ H v H1 h
  ·simp only [kindOf,ho,he.1,he.2] at hk;cases hk
  ·simp only [kindOf,ho,he.1,he.2] at hk;cases hk
 |call c=>
  obtain ⟨callee,args,ats⟩:=c
  cases callee with
  |builtin b=>
   simp only [evOp,ho,evCallOp] at h
   unfold evBuiltin at h
   split at h
   ·simp [kindOf,ho] at hk
   ·split at h
    ·unfold valOf at h;split at h
     ·cases h;rfl
     ·cases h
    ·cases h
   ·split at h
    ·split at h
     ·split at h
      ·cases h
      ·cases h;rfl
     ·cases h
    ·cases h
   ·simp [kindOf,ho] at hk
   ·split at h
    ·exact evPlainRun_keep _ H v H1 h
    ·cases h
   ·split at h
    ·exact evPlainRun_keep _ H v H1 h
    ·cases h
   ·cases h;rfl
   ·split at h
    ·cases h
    ·cases h;rfl
   ·simp [kindOf,ho] at hk
   ·cases h
  |value f=>simp [kindOf,ho] at hk
  |invoke r n=>simp [kindOf,ho] at hk
 |_=>simp [kindOf,ho] at hk
theorem plain_of_kind {o:Oper} (hk:kindOf P o≠ .chain):plainOp o=true∧∀ c,o.op≠ .defer c:=by
 cases ho:o.op with
 |call c=>
  obtain ⟨callee,args,ats⟩:=c
  cases callee with
  |builtin b=>exact ⟨by simp [plainOp,ho],fun c e=>by cases e⟩
  |value f=>exact absurd (by simp [kindOf,ho]) hk
  |invoke r n=>exact absurd (by simp [kindOf,ho]) hk
 |defer c=>exact absurd (by simp [kindOf,ho]) hk
 |_=>exact ⟨by simp [plainOp,ho],fun c e=>by cases e⟩
inductive NewV:(Nat→Value)→Prop
 |ptr:NewV ptrTo
 |slice (l c:Nat):NewV fun n=> .slice (some ⟨n,0,none⟩) l c
 |map:NewV fun n=> .map (some n)
def FreshH (f:IH→Option OpRes):Prop:=∀ H v H1,f H=some (.val v H1)→∃ vf ob,NewV vf∧∀ H2,f H2=some (.val (vf H2.n) (H2.new ob))
theorem evToBytes_fresh (e:TypeId) (s:ByteArray):FreshH fun H=>evToBytes P H e s:=by
 intro H v H1 h
 simp only at h
 unfold evToBytes at h
 split at h
 ·rename_i hu
  exact ⟨_,.cells ((bl s).map fun c=> .int .u8 c.toNat) e 0 false true,.slice s.size (unk+1),fun H2=>by simp only [evToBytes,hu]⟩
 ·cases h
theorem evAlloc_fresh (e:TypeId):FreshH fun H=>evAlloc P H e:=by
 intro H v H1 h
 simp only at h
 unfold evAlloc at h
 split at h
 ·rename_i z hz
  exact ⟨_,.cells z.cells.toList e 0 true false,.ptr,fun H2=>by simp only [evAlloc,newCells,hz]⟩
 ·cases h
theorem evBox_fresh (e:TypeId) (v:Value):FreshH fun H=>evBox H e v:=by
 intro H v1 H1 h
 simp only at h
 unfold evBox at h
 split at h
 ·rename_i hz
  exact ⟨_,.cells v.cells.toList e 0 true false,.ptr,fun H2=>by simp only [evBox,newCells,hz,if_true]⟩
 ·cases h
theorem evBuildSlice_fresh (t:TypeId) (len:Nat) (ps:List (Nat×Value)):FreshH fun H=>evBuildSlice P H t len ps:=by
 intro H v H1 h
 simp only at h
 unfold evBuildSlice at h
 split at h
 ·rename_i e i he
  split at h
  ·rename_i hc
   split at h
   ·rename_i z hz
    split at h
    ·rename_i hs
     split at h
     ·rename_i cells hf
      exact ⟨_,.cells cells.toList e 0 true false,.slice len len,fun H2=>by simp only [evBuildSlice,newCells,he,hc,if_true,hz,hs,hf]⟩
     ·cases h
    ·cases h
   ·cases h
  ·cases h
 ·cases h
theorem evMakeSlice_fresh (t:TypeId) (l c:Value):FreshH fun H=>evMakeSlice P H t l c:=by
 intro H v H1 h
 simp only at h
 unfold evMakeSlice at h
 split at h
 ·rename_i e i l c he
  split at h
  ·rename_i hc
   split at h
   ·rename_i z hz
    split at h
    ·rename_i hs
     exact ⟨_,.cells (reps z.cells.toList c.toNat) e 0 true false,.slice l.toNat c.toNat,fun H2=>by simp only [evMakeSlice,newCells,he,hc,if_true,hz,hs]⟩
    ·cases h
   ·cases h
  ·cases h
 ·cases h
theorem evMakeMap_fresh (t:TypeId) (r:Option Value):FreshH fun H=>evMakeMap P H t r:=by
 intro H v H1 h
 simp only at h
 unfold evMakeMap at h
 split at h
 ·exact ⟨_,.map [] 0,.map,fun H2=>rfl⟩
 ·split at h
  ·rename_i hu
   exact ⟨_,.map [] 0,.map,fun H2=>by simp only [evMakeMap,hu]⟩
  ·cases h
theorem fresh_new {sf:Self} {ρ:Operand→Value} {o:Oper} (hk:kindOf P o= .fresh):FreshH fun H=>evOp P sf ρ H o:=by
 have key:∀ (f:IH→Option OpRes),(∀ H,evOp P sf ρ H o=f H)→FreshH f→FreshH fun H=>evOp P sf ρ H o:=by
  intro f e hf H v H1 h
  simp only [e] at h ⊢
  exact hf H v H1 h
 cases ho:o.op with
 |alloc e=>exact key _ (fun _=>by simp only [evOp,ho]) (evAlloc_fresh (P:=P) e)
 |box e x=>exact key _ (fun _=>by simp only [evOp,ho]) (evBox_fresh e (ρ x))
 |buildSlice t len ps=>exact key _ (fun _=>by simp only [evOp,ho]) (evBuildSlice_fresh (P:=P) t len (ps.toList.map fun p=>(p.1,ρ p.2)))
 |makeSlice t l c=>exact key _ (fun _=>by simp only [evOp,ho]) (evMakeSlice_fresh (P:=P) t (ρ l) (ρ c))
 |makeMap t r=>exact key _ (fun _=>by simp only [evOp,ho]) (evMakeMap_fresh (P:=P) t (r.map ρ))
 |convert src dst x=>
  simp only [kindOf,ho] at hk
  split at hk
  ·rename_i e hs hd
   intro H v H1 h
   simp only [evOp,ho,evConvert,hs,hd] at h ⊢
   split at h
   ·rename_i s hx
    obtain ⟨vf,ob,h1,h2⟩:=evToBytes_fresh (P:=P) e s H v H1 h
    exact ⟨vf,ob,h1,h2⟩
   ·cases h
  ·cases hk
  ·cases hk
 |call c=>
  obtain ⟨callee,args,ats⟩:=c
  cases callee with
  |builtin b=>cases b<;>simp [kindOf,ho] at hk
  |value f=>simp [kindOf,ho] at hk
  |invoke r n=>simp [kindOf,ho] at hk
 |_=>simp [kindOf,ho] at hk
end Go.Iv
