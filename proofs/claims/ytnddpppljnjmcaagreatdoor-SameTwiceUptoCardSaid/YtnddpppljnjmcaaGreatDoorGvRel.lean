/- What stands between the pure evaluator and the ideal one: values, objects, heaps, what a step leaves alone. -/
import Derived.Test.YtnddpppljnjmcaaGreatDoorGvCode
import Derived.Test.YtnddpppljnjmcaaGreatDoorIvRel
set_option linter.unusedSimpArgs false
set_option linter.unusedVariables false
namespace Go.Gv
open Go Go.Iv
theorem GH.get_put (H:GH) (b:Nat) (o:GObj) (k:Nat):(H.put b o).get k=if k=b then some o else H.get k:=by
 simp only [GH.get,GH.put,Tr.getF_eq,Tr.putQ_eq]
 have:=Tr.get_put H.t b (some (H.ck,o)) k
 unfold Tr.put at this
 rw [this]
 by_cases hk:k=b<;>simp [hk]
theorem GH.get_del (H:GH) (b k:Nat):(H.del b).get k=if k=b then none else H.get k:=by
 simp only [GH.get,GH.del,Tr.getF_eq,Tr.putQ_eq]
 have:=Tr.get_put H.t b (none:Option (Nat×GObj)) k
 unfold Tr.put at this
 rw [this]
 by_cases hk:k=b<;>simp [hk]
theorem GH.get_new (H:GH) (o:GObj) (k:Nat):(H.new o).get k=if k=H.n then some o else H.get k:=by
 simp only [GH.get,GH.new,Tr.getF_eq,Tr.putQ_eq]
 have:=Tr.get_put H.t H.n (some (H.ck,o)) k
 unfold Tr.put at this
 rw [this]
 by_cases hk:k=H.n<;>simp [hk]
theorem GH.stamp_put (H:GH) (b:Nat) (o:GObj) (k:Nat):(H.put b o).stamp k=if k=b then some H.ck else H.stamp k:=by
 simp only [GH.stamp,GH.put,Tr.getF_eq,Tr.putQ_eq]
 have:=Tr.get_put H.t b (some (H.ck,o)) k
 unfold Tr.put at this
 rw [this]
 by_cases hk:k=b<;>simp [hk]
theorem GH.stamp_del (H:GH) (b k:Nat):(H.del b).stamp k=if k=b then none else H.stamp k:=by
 simp only [GH.stamp,GH.del,Tr.getF_eq,Tr.putQ_eq]
 have:=Tr.get_put H.t b (none:Option (Nat×GObj)) k
 unfold Tr.put at this
 rw [this]
 by_cases hk:k=b<;>simp [hk]
theorem GH.stamp_new (H:GH) (o:GObj) (k:Nat):(H.new o).stamp k=if k=H.n then some H.ck else H.stamp k:=by
 simp only [GH.stamp,GH.new,Tr.getF_eq,Tr.putQ_eq]
 have:=Tr.get_put H.t H.n (some (H.ck,o)) k
 unfold Tr.put at this
 rw [this]
 by_cases hk:k=H.n<;>simp [hk]
theorem GH.stamp_get {H:GH} {id s:Nat} (h:H.stamp id=some s):∃ o,H.get id=some o:=by
 unfold GH.stamp at h;unfold GH.get
 split at h
 ·rename_i s' o heq;exact ⟨o,rfl⟩
 ·cases h
structure Loc where
 pos:Option (Nat×Nat)
 len:Nat
 sz:Nat
 tot:Nat
abbrev Gam:=Nat→Option Loc
def CapOK (cap sz len off tot:Nat):Prop:=cap=unk+sz∨(cap<unk∧len≤cap∧off+cap*sz≤tot)
def Enc (Pu:Nat→Prop) (I:IH):(s:Sh)→s.ty→List Value→Prop
 | .int k,n,vs=>vs= [.int k n]
 | .byte,c,vs=>vs= [.int .u8 c.toNat]
 | .bool,b,vs=>vs= [.bool b]
 | .str,s,vs=>vs= [.string (ba s)]
 | .cons a b,x,vs=>∃ u w,vs=u++w∧Enc Pu I a x.1 u∧Enc Pu I b x.2 w
 | .slc e,xs,vs=>(xs= []∧vs= [.slice none 0 0])∨(∃ b off cap cs et fz ex sd,vs= [.slice (some ⟨b,off,none⟩) (List.length xs) cap]∧Pu b∧I.get b=some (.cells cs et fz ex sd)∧
   CapOK cap e.sz (List.length xs) off cs.length∧off+List.length xs*e.sz≤cs.length∧∀ i x,xs[i]? =some x→Enc Pu I e x ((cs.drop (off+i*e.sz)).take e.sz))∨(xs= []∧∃ b,vs= [.slice (some ⟨b,0,none⟩) 0 0])
theorem Enc.len {Pu:Nat→Prop} {I:IH}:∀ {s:Sh} {x:s.ty} {vs:List Value},Enc Pu I s x vs→vs.length=s.sz:=by
 intro s
 induction s with
 |int k=>intro x vs h;unfold Enc at h;rw [h];rfl
 |byte=>intro x vs h;unfold Enc at h;rw [h];rfl
 |bool=>intro x vs h;unfold Enc at h;rw [h];rfl
 |str=>intro x vs h;unfold Enc at h;rw [h];rfl
 |cons a b iha ihb=>intro x vs h;unfold Enc at h;obtain ⟨u,w,rfl,h1,h2⟩:=h;simp [Sh.sz,iha h1,ihb h2]
 |slc e ih=>
  intro x vs h;unfold Enc at h
  rcases h with ⟨_,rfl⟩ | ⟨b,off,cap,cs,et,fz,ex,sd,rfl,_⟩ | ⟨_,b,rfl⟩<;>rfl
theorem Enc.mono {Pu Pu':Nat→Prop} {I I':IH} (hp:∀ b,Pu b→Pu' b) (hi:∀ b,Pu b→I'.get b=I.get b):∀ {s:Sh} {x:s.ty} {vs:List Value},Enc Pu I s x vs→Enc Pu' I' s x vs:=by
 intro s
 induction s with
 |int k=>intro x vs h;exact h
 |byte=>intro x vs h;exact h
 |bool=>intro x vs h;exact h
 |str=>intro x vs h;exact h
 |cons a b iha ihb=>intro x vs h;unfold Enc at h ⊢;obtain ⟨u,w,rfl,h1,h2⟩:=h;exact ⟨u,w,rfl,iha h1,ihb h2⟩
 |slc e ih=>
  intro x vs h;unfold Enc at h ⊢
  rcases h with h | ⟨b,off,cap,cs,et,fz,ex,sd,rfl,hb,hg,hc,hl,hx⟩ |h
  ·exact .inl h
  ·exact .inr (.inl ⟨b,off,cap,cs,et,fz,ex,sd,rfl,hp b hb,(hi b hb).trans hg,hc,hl,fun i x hi=>ih (hx i x hi)⟩)
  ·exact .inr (.inr h)
def nilB:Value→Bool
 | .slice none _ _=>true
 |_=>false
def capB:Value→Nat
 | .slice _ _ c=>c
 |_=>0
def SlV (l:Loc) (off len:Nat) (v:Value):Prop:=
 match l.pos with
 |none=>v= .slice none 0 0∧len=0
 |some (b,o)=>∃ cap,v= .slice (some ⟨b,o+off*l.sz,none⟩) len cap∧CapOK cap l.sz len (o+off*l.sz) l.tot
def MpV (l:Loc) (v:Value):Prop:=match l.pos with
 |none=>v= .map none
 |some (b,_)=>v= .map (some b)
theorem MpV.map {l:Loc} {v:Value} (h:MpV l v):∃ r,v= .map r:=by
 unfold MpV at h
 split at h
 ·exact ⟨_,h⟩
 ·exact ⟨_,h⟩
mutual
inductive GR (Γ:Gam) (Pu:Nat→Prop) (I:IH):TV→Value→Prop
 |int (k:IntKind) (n:Int):GR Γ Pu I (.int k n) (.int k n)
 |byte (c:UInt8):GR Γ Pu I (.byte c) (.int .u8 c.toNat)
 |bool (b:Bool):GR Γ Pu I (.bool b) (.bool b)
 |str (s:List UInt8):GR Γ Pu I (.str s) (.string (ba s))
 |agg {cs:List TV} {vs:List Value}:GRs Γ Pu I cs vs→GR Γ Pu I (.agg cs) (.agg ⟨vs⟩)
 |tup {cs:List TV} {vs:List Value}:GRs Γ Pu I cs vs→GR Γ Pu I (.tup cs) (.tuple ⟨vs⟩)
 |lst {e:Sh} {xs:List e.ty} {nl:Option Bool} {cl:Bool} {v:Value}:Enc Pu I (.slc e) xs [v]→(∀ c,nl=some c→nilB v=c)→(cl=true→capB v=0∧nilB v=false)→GR Γ Pu I (.lst e xs nl cl) v
 |all {id:Nat} {l:Loc} {v:Value}:Γ id=some l→SlV l 0 l.len v→GR Γ Pu I (.all id) v
 |own {id off len:Nat} {l:Loc} {v:Value}:Γ id=some l→off+len≤l.len→SlV l off len v→GR Γ Pu I (.own id off len) v
 |ptr {id off b:Nat} {l:Loc}:Γ id=some l→l.pos=some (b,0)→GR Γ Pu I (.ptr id off) (.pointer (some ⟨b,off,none⟩))
 |pel {cs:List TV} {b off:Nat} {bs:List Value} {et:TypeId} {fz:Nat} {ex sd:Bool}:Pu b→I.get b=some (.cells bs et fz ex sd)→off+cs.length≤bs.length→GRs Γ Pu I cs ((bs.drop off).take cs.length)→GR Γ Pu I (.pel cs) (.pointer (some ⟨b,off,none⟩))
 |elm {id i off b o:Nat} {l:Loc}:Γ id=some l→l.pos=some (b,o)→GR Γ Pu I (.elm id i off) (.pointer (some ⟨b,o+i*l.sz+off,none⟩))
 |fn {f:FuncId} {a c:List TV} {a' c':List Value}:GRs Γ Pu I a a'→GRs Γ Pu I c c'→GR Γ Pu I (.fn f a c) (.func (.func f) ⟨a'⟩ ⟨c'⟩)
 |yld {l b:Nat} {p:Loc}:Γ l=some p→p.pos=some (b,0)→GR Γ Pu I (.yld l) (.func (.yield b) #[] #[])
 |mp {id:Nat} {l:Loc} {v:Value}:Γ id=some l→MpV l v→GR Γ Pu I (.mp id) v
 |raw (v:Value):GR Γ Pu I (.raw v) v
 |undef (v:Value):GR Γ Pu I .undef v
inductive GRs (Γ:Gam) (Pu:Nat→Prop) (I:IH):List TV→List Value→Prop
 |nil:GRs Γ Pu I [] []
 |cons {t:TV} {ts:List TV} {v:Value} {vs:List Value}:GR Γ Pu I t v→GRs Γ Pu I ts vs→GRs Γ Pu I (t::ts) (v::vs)
end
section
variable {Γ Γ':Gam} {Pu Pu':Nat→Prop} {I I':IH}
structure Keep (Γ:Gam) (Pu:Nat→Prop) (I:IH) (Γ':Gam) (Pu':Nat→Prop) (I':IH):Prop where
 g:∀ id l,Γ id=some l→Γ' id=some l
 p:∀ b,Pu b→Pu' b
 i:∀ b,Pu b→I'.get b=I.get b
theorem Keep.refl:Keep Γ Pu I Γ Pu I:= ⟨fun _ _ h=>h,fun _ h=>h,fun _ _=>rfl⟩
theorem Keep.trans {Γ'':Gam} {Pu'':Nat→Prop} {I'':IH} (h:Keep Γ Pu I Γ' Pu' I') (k:Keep Γ' Pu' I' Γ'' Pu'' I''):Keep Γ Pu I Γ'' Pu'' I'':=
 ⟨fun id l x=>k.g id l (h.g id l x),fun b x=>k.p b (h.p b x),fun b x=>(k.i b (h.p b x)).trans (h.i b x)⟩
mutual
theorem GR.mono (hk:Keep Γ Pu I Γ' Pu' I') {t:TV} {v:Value}:GR Γ Pu I t v→GR Γ' Pu' I' t v
 | .int k n=> .int k n
 | .byte c=> .byte c
 | .bool b=> .bool b
 | .str s=> .str s
 | .agg h=> .agg (h.mono hk)
 | .tup h=> .tup (h.mono hk)
 | .lst h a b=> .lst (h.mono hk.p hk.i) a b
 | .all h a=> .all (hk.g _ _ h) a
 | .own h a b=> .own (hk.g _ _ h) a b
 | .ptr h a=> .ptr (hk.g _ _ h) a
 | .pel h a b c=> .pel (hk.p _ h) ((hk.i _ h).trans a) b (c.mono hk)
 | .elm h a=> .elm (hk.g _ _ h) a
 | .fn a c=> .fn (a.mono hk) (c.mono hk)
 | .yld h a=> .yld (hk.g _ _ h) a
 | .mp h a=> .mp (hk.g _ _ h) a
 | .raw v=> .raw v
 | .undef v=> .undef v
theorem GRs.mono (hk:Keep Γ Pu I Γ' Pu' I') {t:List TV} {v:List Value}:GRs Γ Pu I t v→GRs Γ' Pu' I' t v
 | .nil=> .nil
 | .cons a b=> .cons (a.mono hk) (b.mono hk)
end
theorem GRs.length {l:List TV} {l':List Value} (h:GRs Γ Pu I l l'):l'.length=l.length:=by
 induction l generalizing l' with
 |nil=>cases h;rfl
 |cons t l ih=>cases h with |cons a b=>simp [ih b]
theorem GRs.get {l:List TV} {l':List Value} (h:GRs Γ Pu I l l') {i:Nat} {t:TV} (hi:l[i]? =some t):∃ v,l'[i]? =some v∧GR Γ Pu I t v:=by
 induction l generalizing l' i with
 |nil=>simp at hi
 |cons a l ih=>
  cases h with
  |cons x y=>
   cases i with
   |zero=>simp at hi;subst hi;exact ⟨_,rfl,x⟩
   |succ i=>simpa using ih y (by simpa using hi)
theorem GRs.append {a b:List TV} {a' b':List Value} (h:GRs Γ Pu I a a') (k:GRs Γ Pu I b b'):GRs Γ Pu I (a++b) (a'++b'):=by
 induction a generalizing a' with
 |nil=>cases h;exact k
 |cons t l ih=>cases h with |cons x y=>exact .cons x (ih y)
theorem GRs.split {a b:List TV} {l:List Value} (h:GRs Γ Pu I (a++b) l):∃ u w,l=u++w∧GRs Γ Pu I a u∧GRs Γ Pu I b w:=by
 induction a generalizing l with
 |nil=>exact ⟨[],l,rfl,.nil,h⟩
 |cons t r ih=>
  cases h with
  |cons x y=>
   obtain ⟨u,w,rfl,h1,h2⟩:=ih y
   exact ⟨_::u,w,rfl,.cons x h1,h2⟩
theorem GRs.take {a:List TV} {a':List Value} (h:GRs Γ Pu I a a') (n:Nat):GRs Γ Pu I (a.take n) (a'.take n):=by
 induction a generalizing a' n with
 |nil=>cases h;simp;exact .nil
 |cons t l ih=>cases h with |cons x y=>cases n with
  |zero=>exact .nil
  |succ n=>exact .cons x (ih y n)
theorem GRs.drop {a:List TV} {a':List Value} (h:GRs Γ Pu I a a') (n:Nat):GRs Γ Pu I (a.drop n) (a'.drop n):=by
 induction a generalizing a' n with
 |nil=>cases h;simp;exact .nil
 |cons t l ih=>cases h with |cons x y=>cases n with
  |zero=>exact .cons x y
  |succ n=>exact ih y n
theorem GRs.set {a:List TV} {a':List Value} (h:GRs Γ Pu I a a') (i:Nat) {t:TV} {v:Value} (hv:GR Γ Pu I t v):GRs Γ Pu I (a.set i t) (a'.set i v):=by
 induction a generalizing a' i with
 |nil=>cases h;exact .nil
 |cons t l ih=>cases h with |cons x y=>cases i with
  |zero=>exact .cons hv y
  |succ n=>exact .cons x (ih y n)
theorem GRs.setRun {vs:List TV} {vs':List Value} (k:GRs Γ Pu I vs vs'):∀ {a:List TV} {a':List Value} (_:GRs Γ Pu I a a') (i:Nat),GRs Γ Pu I (setRunG a i vs) (setRun a' i vs'):=by
 induction vs generalizing vs' with
 |nil=>intro a a' h i;cases k;exact h
 |cons t l ih=>intro a a' h i;cases k with |cons x y=>exact ih y (h.set i x) (i+1)
theorem Enc.tvs:∀ {s:Sh} {x:s.ty} {vs:List Value},Enc Pu I s x vs→GRs Γ Pu I (s.tvs x) vs:=by
 intro s
 induction s with
 |int k=>intro x vs h;unfold Enc at h;subst h;exact .cons (.int k x) .nil
 |byte=>intro x vs h;unfold Enc at h;subst h;exact .cons (.byte x) .nil
 |bool=>intro x vs h;unfold Enc at h;subst h;exact .cons (.bool x) .nil
 |str=>intro x vs h;unfold Enc at h;subst h;exact .cons (.str x) .nil
 |cons a b iha ihb=>intro x vs h;unfold Enc at h;obtain ⟨u,w,rfl,h1,h2⟩:=h;exact (iha h1).append (ihb h2)
 |slc e ih=>
  intro x vs h
  have h0:=h
  unfold Enc at h
  have:∃ v,vs= [v]:=by
   rcases h with ⟨_,rfl⟩ | ⟨b,off,cap,cs,et,fz,ex,sd,rfl,_⟩ | ⟨_,b,rfl⟩<;>exact ⟨_,rfl⟩
  obtain ⟨v,rfl⟩:=this
  exact .cons (.lst h0 (fun c hc=>by cases hc) (fun hc=>by cases hc)) .nil
theorem ofSlc_ok {e:Sh} {l r:List TV} {x:List e.ty} {vs:List Value} (h:ofSlc e l=some (x,r)) (hr:GRs Γ Pu I l vs):∃ u w,vs=u++w∧Enc Pu I (.slc e) x u∧GRs Γ Pu I r w:=by
 unfold ofSlc at h
 split at h
 ·rename_i e' xs nl cl r'
  split at h
  ·rename_i hh hs
   subst hh
   cases h
   cases hr with |cons a b=>cases a with |lst ha _ _=>exact ⟨[_],_,rfl,ha,b⟩
  ·cases h
 ·cases h
  cases hr with |cons a b=>cases a;exact ⟨[_],_,rfl,.inl ⟨rfl,rfl⟩,b⟩
 ·cases h
theorem Sh.of_ok:∀ {s:Sh} {l r:List TV} {x:s.ty} {vs:List Value},s.of l=some (x,r)→GRs Γ Pu I l vs→∃ u w,vs=u++w∧Enc Pu I s x u∧GRs Γ Pu I r w:=by
 intro s
 induction s with
 |int k=>
  intro l r x vs h hr
  simp only [Sh.of] at h
  unfold ofInt at h
  split at h
  ·split at h
   ·rename_i hk;subst hk;cases h
    cases hr with |cons a b=>cases a;exact ⟨[_],_,rfl,rfl,b⟩
   ·cases h
  ·cases h
 |byte=>
  intro l r x vs h hr
  simp only [Sh.of] at h
  unfold ofByte at h
  split at h
  ·cases h;cases hr with |cons a b=>cases a;exact ⟨[_],_,rfl,rfl,b⟩
  ·cases h
 |bool=>
  intro l r x vs h hr
  simp only [Sh.of] at h
  unfold ofBool at h
  split at h
  ·cases h;cases hr with |cons a b=>cases a;exact ⟨[_],_,rfl,rfl,b⟩
  ·cases h
 |str=>
  intro l r x vs h hr
  simp only [Sh.of] at h
  unfold ofStr at h
  split at h
  ·cases h;cases hr with |cons a b=>cases a;exact ⟨[_],_,rfl,rfl,b⟩
  ·cases h
 |cons a b iha ihb=>
  intro l r x vs h hr
  simp only [Sh.of] at h
  split at h
  ·rename_i y l1 h1
   split at h
   ·rename_i z l2 h2
    cases h
    obtain ⟨u,w,rfl,e1,r1⟩:=iha h1 hr
    obtain ⟨u2,w2,rfl,e2,r2⟩:=ihb h2 r1
    exact ⟨u++u2,w2,by simp,⟨u,u2,rfl,e1,e2⟩,r2⟩
   ·cases h
  ·cases h
 |slc e ih=>
  intro l r x vs h hr
  simp only [Sh.of] at h
  exact ofSlc_ok h hr
theorem Sh.ofAll_ok {s:Sh} {l:List TV} {x:s.ty} {vs:List Value} (h:s.ofAll l=some x) (hr:GRs Γ Pu I l vs):Enc Pu I s x vs:=by
 unfold Sh.ofAll at h
 split at h
 ·rename_i y heq
  cases h
  obtain ⟨u,w,rfl,e1,r1⟩:=Sh.of_ok heq hr
  cases r1
  simpa using e1
 ·cases h
inductive Dat (Pu:Nat→Prop) (I:IH) (g:Bool) (s:Sh) (x:s.ty) (v:Value):Prop
 |mk:Enc Pu I s x v.cells.toList→(g=true→∃ cs,v= .agg cs)→(g=false→v.cells.toList= [v])→Dat Pu I g s x v
theorem Dat.gr {g:Bool} {s:Sh} {x:s.ty} {v:Value} (h:Dat Pu I g s x v):GR Γ Pu I (bif g then .agg (s.tvs x) else (s.tvs x).headD .undef) v:=by
 obtain ⟨h1,h2,h3⟩:=h
 have hr:=h1.tvs (Γ:=Γ)
 cases g with
 |true=>
  obtain ⟨cs,rfl⟩:=h2 rfl
  exact .agg hr
 |false=>
  rw [h3 rfl] at hr
  cases hq:s.tvs x with
  |nil=>rw [hq] at hr;cases hr
  |cons t r=>
   rw [hq] at hr
   cases hr with |cons a b=>exact a
theorem Dat.mono {g:Bool} {s:Sh} {x:s.ty} {v:Value} (hp:∀ b,Pu b→Pu' b) (hi:∀ b,Pu b→I'.get b=I.get b) (h:Dat Pu I g s x v):Dat Pu' I' g s x v:=by
 obtain ⟨h1,h2,h3⟩:=h
 exact ⟨h1.mono hp hi,h2,h3⟩
def Ents (Pu:Nat→Prop) (I:IH) (gk ge:Bool) (k e:Sh):List (k.ty×e.ty)→List MapEntry→Prop
 | [],es=>es= []
 |p::r,es=>∃ n t,es=n::t∧Dat Pu I gk k p.1 n.key∧Dat Pu I ge e p.2 n.val∧Ents Pu I gk ge k e r t
theorem Ents.mono (hp:∀ b,Pu b→Pu' b) (hi:∀ b,Pu b→I'.get b=I.get b) {gk ge:Bool} {k e:Sh}:∀ {xs:List (k.ty×e.ty)} {es:List MapEntry},Ents Pu I gk ge k e xs es→Ents Pu' I' gk ge k e xs es:=by
 intro xs
 induction xs with
 |nil=>intro es h;exact h
 |cons p r ih=>
  intro es h
  obtain ⟨n,t,rfl,h1,h2,h3⟩:=h
  exact ⟨n,t,rfl,h1.mono hp hi,h2.mono hp hi,ih h3⟩
theorem Ents.len {gk ge:Bool} {k e:Sh}:∀ {xs:List (k.ty×e.ty)} {es:List MapEntry},Ents Pu I gk ge k e xs es→es.length=xs.length:=by
 intro xs
 induction xs with
 |nil=>intro es h;unfold Ents at h;subst h;rfl
 |cons p r ih=>intro es h;obtain ⟨n,t,rfl,_,_,h3⟩:=h;simp [ih h3]
end
end Go.Gv
