/- What stands between the pure evaluator and the ideal one: values, objects, heaps, what a step leaves alone. -/
import Derived.Test.YteknbnkjelmfaaaGreatDoorIvRel
set_option linter.unusedSimpArgs false
set_option linter.unusedVariables false
namespace Go.Gv
open Go Go.Iv
theorem GH.ag (H:GH) (b:Nat) (o:bu) (k:Nat):(H.put b o).get k=if k=b then some o else H.get k:=by
 simp only [GH.get,GH.put,Tr.fq,Tr.eI];have:=Tr.ag H.t b (some (H.ck,o)) k;unfold Tr.put at this
 grind
theorem GH.cf (H:GH) (b k:Nat):(H.del b).get k=if k=b then none else H.get k:=by
 simp only [GH.get,GH.del,Tr.fq,Tr.eI];have:=Tr.ag H.t b (none:Option (Nat×bu)) k;unfold Tr.put at this
 grind
theorem GH.ay (H:GH) (o:bu) (k:Nat):(H.new o).get k=if k=H.n then some o else H.get k:=by
 simp only [GH.get,GH.new,Tr.fq,Tr.eI];have:=Tr.ag H.t H.n (some (H.ck,o)) k;unfold Tr.put at this
 grind
theorem GH.eZ (H:GH) (b:Nat) (o:bu) (k:Nat):(H.put b o).aH k=if k=b then some H.ck else H.aH k:=by
 simp only [GH.aH,GH.put,Tr.fq,Tr.eI];have:=Tr.ag H.t b (some (H.ck,o)) k;unfold Tr.put at this
 grind
theorem GH.eu (H:GH) (b k:Nat):(H.del b).aH k=if k=b then none else H.aH k:=by
 simp only [GH.aH,GH.del,Tr.fq,Tr.eI];have:=Tr.ag H.t b (none:Option (Nat×bu)) k;unfold Tr.put at this
 grind
theorem GH.dI (H:GH) (o:bu) (k:Nat):(H.new o).aH k=if k=H.n then some H.ck else H.aH k:=by
 simp only [GH.aH,GH.new,Tr.fq,Tr.eI];have:=Tr.ag H.t H.n (some (H.ck,o)) k;unfold Tr.put at this
 grind
theorem GH.hY {H:GH} {id s:Nat} (h:H.aH id=some s):∃ o,H.get id=some o:=by
 unfold GH.aH at h;unfold GH.get;split at h
 .grind
 .cases h
structure Loc where
 pos:Option (Nat×Nat)
 len:Nat
 sz:Nat
 tot:Nat
abbrev aN:=Nat->Option Loc
def je (cap sz len off tot:Nat):Prop:=cap=ff+sz\/(cap<ff/\len<=cap/\off+cap*sz<=tot)
def bA (Pu:Nat->Prop) (I:IH):(s:Sh)->s.ty->List Value->Prop
 | .int k,n,vs=>vs= [.int k n]
 | .byte,c,vs=>vs= [.int .u8 c.toNat]
 | .bool,b,vs=>vs= [.bool b]
 | .str,s,vs=>vs= [.string (ba s)]
 | .cons a b,x,vs=>∃ u w,vs=u++w/\bA Pu I a x.1 u/\bA Pu I b x.2 w
 | .bH e,xs,vs=>(xs= []/\vs= [.slice none 0 0])\/(∃ b off cap cs et fz ex sd,vs= [.slice (some ⟨b,off,none⟩) (List.length xs) cap]/\Pu b/\I.get b=some (.cells cs et fz ex sd)/\
   je cap e.sz (List.length xs) off cs.length/\off+List.length xs*e.sz<=cs.length/\∀ i x,xs[i]? =some x->bA Pu I e x ((cs.drop (off+i*e.sz)).take e.sz))\/(xs= []/\∃ b,vs= [.slice (some ⟨b,0,none⟩) 0 0])
theorem bA.len {Pu:Nat->Prop} {I:IH}:∀ {s:Sh} {x:s.ty} {vs:List Value},bA Pu I s x vs->vs.length=s.sz:=by
 intro s
 induction s with
 |int k=>intro x vs h;unfold bA at h;rw [h];rfl
 |byte=>intro x vs h;unfold bA at h;rw [h];rfl
 |bool=>intro x vs h;unfold bA at h;rw [h];rfl
 |str=>intro x vs h;unfold bA at h;rw [h];rfl
 |cons a b iha ihb=>intro x vs h;unfold bA at h;obtain ⟨u,w,rfl,h1,h2⟩:=h;simp [Sh.sz,iha h1,ihb h2]
 |bH e ih=>
  intro x vs h;unfold bA at h;rcases h with ⟨_,rfl⟩ |⟨b,off,cap,cs,et,fz,ex,sd,rfl,_⟩ |⟨_,b,rfl⟩<;>rfl
theorem bA.mono {Pu Pu':Nat->Prop} {I I':IH} (hp:∀ b,Pu b->Pu' b) (hi:∀ b,Pu b->I'.get b=I.get b):∀ {s:Sh} {x:s.ty} {vs:List Value},bA Pu I s x vs->bA Pu' I' s x vs:=by
 intro s
 induction s with
 |int k=>intro x vs h;exact h
 |byte=>intro x vs h;exact h
 |bool=>intro x vs h;exact h
 |str=>intro x vs h;exact h
 |cons a b iha ihb=>intro x vs h;unfold bA at h ⊢;grind
 |bH e ih=>
  intro x vs h;unfold bA at h ⊢;rcases h with h |⟨b,off,cap,cs,et,fz,ex,sd,rfl,hb,hg,hc,hl,hx⟩ |h
  .exact .inl h
  .exact .inr (.inl ⟨b,off,cap,cs,et,fz,ex,sd,rfl,hp b hb,(hi b hb).trans hg,hc,hl,fun i x hi=>ih (hx i x hi)⟩)
  grind
def sY:Value->Bool
 | .slice none _ _=>true
 |_=>false
def Ux:Value->Nat
 | .slice _ _ c=>c
 |_=>0
def fF (l:Loc) (off len:Nat) (v:Value):Prop:=
 match l.pos with
 |none=>v= .slice none 0 0/\len=0
 |some (b,o)=>∃ cap,v= .slice (some ⟨b,o+off*l.sz,none⟩) len cap/\je cap l.sz len (o+off*l.sz) l.tot
def Oj (l:Loc) (v:Value):Prop:=match l.pos with
 |none=>v= .map none
 |some (b,_)=>v= .map (some b)
theorem Oj.map {l:Loc} {v:Value} (h:Oj l v):∃ r,v= .map r:=by
 unfold Oj at h
 grind
mutual
inductive GR (Γ:aN) (Pu:Nat->Prop) (I:IH):TV->Value->Prop
 |int (k:IntKind) (n:Int):GR Γ Pu I (.int k n) (.int k n)
 |byte (c:UInt8):GR Γ Pu I (.byte c) (.int .u8 c.toNat)
 |bool (b:Bool):GR Γ Pu I (.bool b) (.bool b)
 |str (s:List UInt8):GR Γ Pu I (.str s) (.string (ba s))
 |agg {cs:List TV} {vs:List Value}:br Γ Pu I cs vs->GR Γ Pu I (.agg cs) (.agg ⟨vs⟩)
 |ja {cs:List TV} {vs:List Value}:br Γ Pu I cs vs->GR Γ Pu I (.ja cs) (.tuple ⟨vs⟩)
 |aB {e:Sh} {xs:List e.ty} {nl:Option Bool} {cl:Bool} {v:Value}:bA Pu I (.bH e) xs [v]->(∀ c,nl=some c->sY v=c)->(cl=true->Ux v=0/\sY v=false)->GR Γ Pu I (.aB e xs nl cl) v
 |all {id:Nat} {l:Loc} {v:Value}:Γ id=some l->fF l 0 l.len v->GR Γ Pu I (.all id) v
 |own {id off len:Nat} {l:Loc} {v:Value}:Γ id=some l->off+len<=l.len->fF l off len v->GR Γ Pu I (.own id off len) v
 |ptr {id off b:Nat} {l:Loc}:Γ id=some l->l.pos=some (b,0)->GR Γ Pu I (.ptr id off) (.pointer (some ⟨b,off,none⟩))
 |nL {cs:List TV} {b off:Nat} {bs:List Value} {et:TypeId} {fz:Nat} {ex sd:Bool}:Pu b->I.get b=some (.cells bs et fz ex sd)->off+cs.length<=bs.length->br Γ Pu I cs ((bs.drop off).take cs.length)->GR Γ Pu I (.nL cs) (.pointer (some ⟨b,off,none⟩))
 |iO {id i off b o:Nat} {l:Loc}:Γ id=some l->l.pos=some (b,o)->GR Γ Pu I (.iO id i off) (.pointer (some ⟨b,o+i*l.sz+off,none⟩))
 |fn {f:FuncId} {a c:List TV} {a' c':List Value}:br Γ Pu I a a'->br Γ Pu I c c'->GR Γ Pu I (.fn f a c) (.func (.func f) ⟨a'⟩ ⟨c'⟩)
 |mo {l b:Nat} {p:Loc}:Γ l=some p->p.pos=some (b,0)->GR Γ Pu I (.mo l) (.func (.yield b) #[] #[])
 |mp {id:Nat} {l:Loc} {v:Value}:Γ id=some l->Oj l v->GR Γ Pu I (.mp id) v
 |raw (v:Value):GR Γ Pu I (.raw v) v
 |undef (v:Value):GR Γ Pu I .undef v
inductive br (Γ:aN) (Pu:Nat->Prop) (I:IH):List TV->List Value->Prop
 |nil:br Γ Pu I [] []
 |cons {t:TV} {ts:List TV} {v:Value} {vs:List Value}:GR Γ Pu I t v->br Γ Pu I ts vs->br Γ Pu I (t::ts) (v::vs)
end
section
variable {Γ Γ':aN} {Pu Pu':Nat->Prop} {I I':IH}
structure cp (Γ:aN) (Pu:Nat->Prop) (I:IH) (Γ':aN) (Pu':Nat->Prop) (I':IH):Prop where
 g:∀ id l,Γ id=some l->Γ' id=some l
 p:∀ b,Pu b->Pu' b
 i:∀ b,Pu b->I'.get b=I.get b
theorem cp.refl:cp Γ Pu I Γ Pu I:=⟨fun _ _ h=>h,fun _ h=>h,fun _ _=>rfl⟩
theorem cp.trans {Γ'':aN} {Pu'':Nat->Prop} {I'':IH} (h:cp Γ Pu I Γ' Pu' I') (k:cp Γ' Pu' I' Γ'' Pu'' I''):cp Γ Pu I Γ'' Pu'' I'':=
 ⟨fun id l x=>k.g id l (h.g id l x),fun b x=>k.p b (h.p b x),fun b x=>(k.i b (h.p b x)).trans (h.i b x)⟩
mutual
theorem GR.mono (hk:cp Γ Pu I Γ' Pu' I') {t:TV} {v:Value}:GR Γ Pu I t v->GR Γ' Pu' I' t v
 | .int k n=> .int k n
 | .byte c=> .byte c
 | .bool b=> .bool b
 | .str s=> .str s
 | .agg h=> .agg (h.mono hk)
 | .ja h=> .ja (h.mono hk)
 | .aB h a b=> .aB (h.mono hk.p hk.i) a b
 | .all h a=> .all (hk.g _ _ h) a
 | .own h a b=> .own (hk.g _ _ h) a b
 | .ptr h a=> .ptr (hk.g _ _ h) a
 | .nL h a b c=> .nL (hk.p _ h) ((hk.i _ h).trans a) b (c.mono hk)
 | .iO h a=> .iO (hk.g _ _ h) a
 | .fn a c=> .fn (a.mono hk) (c.mono hk)
 | .mo h a=> .mo (hk.g _ _ h) a
 | .mp h a=> .mp (hk.g _ _ h) a
 | .raw v=> .raw v
 | .undef v=> .undef v
theorem br.mono (hk:cp Γ Pu I Γ' Pu' I') {t:List TV} {v:List Value}:br Γ Pu I t v->br Γ' Pu' I' t v
 | .nil=> .nil
 | .cons a b=> .cons (a.mono hk) (b.mono hk)
end
theorem br.length {l:List TV} {l':List Value} (h:br Γ Pu I l l'):l'.length=l.length:=by
 induction l generalizing l' with
 |nil=>cases h;rfl
 |cons t l ih=>cases h with |cons a b=>simp [ih b]
theorem br.get {l:List TV} {l':List Value} (h:br Γ Pu I l l') {i:Nat} {t:TV} (hi:l[i]? =some t):∃ v,l'[i]? =some v/\GR Γ Pu I t v:=by
 induction l generalizing l' i with
 |nil=>simp at hi
 |cons a l ih=>
  cases h with
  |cons x y=>
   grind
theorem br.append {a b:List TV} {a' b':List Value} (h:br Γ Pu I a a') (k:br Γ Pu I b b'):br Γ Pu I (a++b) (a'++b'):=by
 induction a generalizing a' with
 |nil=>cases h;exact k
 |cons t l ih=>cases h with |cons x y=>exact .cons x (ih y)
theorem br.split {a b:List TV} {l:List Value} (h:br Γ Pu I (a++b) l):∃ u w,l=u++w/\br Γ Pu I a u/\br Γ Pu I b w:=by
 induction a generalizing l with
 |nil=>exact ⟨[],l,rfl,.nil,h⟩
 |cons t r ih=>
  cases h with
  |cons x y=>
   obtain ⟨u,w,rfl,h1,h2⟩:=ih y;exact ⟨_::u,w,rfl,.cons x h1,h2⟩
theorem br.take {a:List TV} {a':List Value} (h:br Γ Pu I a a') (n:Nat):br Γ Pu I (a.take n) (a'.take n):=by
 induction a generalizing a' n with
 |nil=>cases h;simp;exact .nil
 |cons t l ih=>cases h with |cons x y=>cases n with
  |zero=>exact .nil
  |succ n=>exact .cons x (ih y n)
theorem br.drop {a:List TV} {a':List Value} (h:br Γ Pu I a a') (n:Nat):br Γ Pu I (a.drop n) (a'.drop n):=by
 induction a generalizing a' n with
 |nil=>cases h;simp;exact .nil
 |cons t l ih=>cases h with |cons x y=>cases n with
  |zero=>exact .cons x y
  |succ n=>exact ih y n
theorem br.set {a:List TV} {a':List Value} (h:br Γ Pu I a a') (i:Nat) {t:TV} {v:Value} (hv:GR Γ Pu I t v):br Γ Pu I (a.set i t) (a'.set i v):=by
 induction a generalizing a' i with
 |nil=>cases h;exact .nil
 |cons t l ih=>cases h with |cons x y=>cases i with
  |zero=>exact .cons hv y
  |succ n=>exact .cons x (ih y n)
theorem br.aA {vs:List TV} {vs':List Value} (k:br Γ Pu I vs vs'):∀ {a:List TV} {a':List Value} (_:br Γ Pu I a a') (i:Nat),br Γ Pu I (dO a i vs) (aA a' i vs'):=by
 induction vs generalizing vs' with
 |nil=>intro a a' h i;cases k;exact h
 |cons t l ih=>intro a a' h i;cases k with |cons x y=>exact ih y (h.set i x) (i+1)
theorem bA.cV:∀ {s:Sh} {x:s.ty} {vs:List Value},bA Pu I s x vs->br Γ Pu I (s.cV x) vs:=by
 intro s
 induction s with
 |int k=>intro x vs h;unfold bA at h;subst h;exact .cons (.int k x) .nil
 |byte=>intro x vs h;unfold bA at h;subst h;exact .cons (.byte x) .nil
 |bool=>intro x vs h;unfold bA at h;subst h;exact .cons (.bool x) .nil
 |str=>intro x vs h;unfold bA at h;subst h;exact .cons (.str x) .nil
 |cons a b iha ihb=>intro x vs h;unfold bA at h;obtain ⟨u,w,rfl,h1,h2⟩:=h;exact (iha h1).append (ihb h2)
 |bH e ih=>
  intro x vs h;have h0:=h;unfold bA at h;have:∃ v,vs= [v]:=by
   rcases h with ⟨_,rfl⟩ |⟨b,off,cap,cs,et,fz,ex,sd,rfl,_⟩ |⟨_,b,rfl⟩<;>exact ⟨_,rfl⟩
  obtain ⟨v,rfl⟩:=this;exact .cons (.aB h0 (fun c hc=>by cases hc) (fun hc=>by cases hc)) .nil
theorem A8 {e:Sh} {l r:List TV} {x:List e.ty} {vs:List Value} (h:xG e l=some (x,r)) (hr:br Γ Pu I l vs):∃ u w,vs=u++w/\bA Pu I (.bH e) x u/\br Γ Pu I r w:=by
 unfold xG at h;split at h
 .rename_i e' xs nl cl r'
  split at h
  .rename_i hh hs
   subst hh;cases h;cases hr with |cons a b=>cases a with |aB ha _ _=>exact ⟨[_],_,rfl,ha,b⟩
  .cases h
 .cases h
  cases hr with |cons a b=>cases a;exact ⟨[_],_,rfl,.inl ⟨rfl,rfl⟩,b⟩
 .cases h
theorem Sh.rU:∀ {s:Sh} {l r:List TV} {x:s.ty} {vs:List Value},s.of l=some (x,r)->br Γ Pu I l vs->∃ u w,vs=u++w/\bA Pu I s x u/\br Γ Pu I r w:=by
 intro s
 induction s with
 |int k=>
  intro l r x vs h hr;simp only [Sh.of] at h;unfold ofInt at h;split at h
  .split at h
   .rename_i hk;subst hk;cases h
    cases hr with |cons a b=>cases a;exact ⟨[_],_,rfl,rfl,b⟩
   .cases h
  .cases h
 |byte=>
  intro l r x vs h hr;simp only [Sh.of] at h;unfold yK at h;split at h
  .cases h;cases hr with |cons a b=>cases a;exact ⟨[_],_,rfl,rfl,b⟩
  .cases h
 |bool=>
  intro l r x vs h hr;simp only [Sh.of] at h;unfold ofBool at h;split at h
  .cases h;cases hr with |cons a b=>cases a;exact ⟨[_],_,rfl,rfl,b⟩
  .cases h
 |str=>
  intro l r x vs h hr;simp only [Sh.of] at h;unfold ofStr at h;split at h
  .cases h;cases hr with |cons a b=>cases a;exact ⟨[_],_,rfl,rfl,b⟩
  .cases h
 |cons a b iha ihb=>
  intro l r x vs h hr;simp only [Sh.of] at h;split at h
  .rename_i y l1 h1
   split at h
   .rename_i z l2 h2
    cases h;obtain ⟨u,w,rfl,e1,r1⟩:=iha h1 hr;obtain ⟨u2,w2,rfl,e2,r2⟩:=ihb h2 r1;exact ⟨u++u2,w2,by simp,⟨u,u2,rfl,e1,e2⟩,r2⟩
   .cases h
  .cases h
 |bH e ih=>
  intro l r x vs h hr;simp only [Sh.of] at h;exact A8 h hr
theorem Sh.gA {s:Sh} {l:List TV} {x:s.ty} {vs:List Value} (h:s.jE l=some x) (hr:br Γ Pu I l vs):bA Pu I s x vs:=by
 unfold Sh.jE at h;split at h
 .rename_i y heq
  cases h;obtain ⟨u,w,rfl,e1,r1⟩:=Sh.rU heq hr;cases r1;simpa using e1
 .cases h
inductive sF (Pu:Nat->Prop) (I:IH) (g:Bool) (s:Sh) (x:s.ty) (v:Value):Prop
 |mk:bA Pu I s x v.cells.toList->(g=true->∃ cs,v= .agg cs)->(g=false->v.cells.toList= [v])->sF Pu I g s x v
theorem sF.gr {g:Bool} {s:Sh} {x:s.ty} {v:Value} (h:sF Pu I g s x v):GR Γ Pu I (bif g then .agg (s.cV x) else (s.cV x).headD .undef) v:=by
 obtain ⟨h1,h2,h3⟩:=h;have hr:=h1.cV (Γ:=Γ);cases g with
 |true=>
  obtain ⟨cs,rfl⟩:=h2 rfl;exact .agg hr
 |false=>
  rw [h3 rfl] at hr;cases hq:s.cV x with
  |nil=>rw [hq] at hr;cases hr
  |cons t r=>
   rw [hq] at hr;cases hr with |cons a b=>exact a
theorem sF.mono {g:Bool} {s:Sh} {x:s.ty} {v:Value} (hp:∀ b,Pu b->Pu' b) (hi:∀ b,Pu b->I'.get b=I.get b) (h:sF Pu I g s x v):sF Pu' I' g s x v:=by
 obtain ⟨h1,h2,h3⟩:=h;exact ⟨h1.mono hp hi,h2,h3⟩
def mR (Pu:Nat->Prop) (I:IH) (gk ge:Bool) (k e:Sh):List (k.ty×e.ty)->List MapEntry->Prop
 | [],es=>es= []
 |p::r,es=>∃ n t,es=n::t/\sF Pu I gk k p.1 n.key/\sF Pu I ge e p.2 n.val/\mR Pu I gk ge k e r t
theorem mR.mono (hp:∀ b,Pu b->Pu' b) (hi:∀ b,Pu b->I'.get b=I.get b) {gk ge:Bool} {k e:Sh}:∀ {xs:List (k.ty×e.ty)} {es:List MapEntry},mR Pu I gk ge k e xs es->mR Pu' I' gk ge k e xs es:=by
 intro xs
 induction xs with
 |nil=>intro es h;exact h
 |cons p r ih=>
  intro es h;obtain ⟨n,t,rfl,h1,h2,h3⟩:=h;exact ⟨n,t,rfl,h1.mono hp hi,h2.mono hp hi,ih h3⟩
theorem mR.len {gk ge:Bool} {k e:Sh}:∀ {xs:List (k.ty×e.ty)} {es:List MapEntry},mR Pu I gk ge k e xs es->es.length=xs.length:=by
 intro xs
 induction xs with
 |nil=>intro es h;unfold mR at h;subst h;rfl
 |cons p r ih=>intro es h;obtain ⟨n,t,rfl,_,_,h3⟩:=h;simp [ih h3]
end
end Go.Gv
