/- What stands between the pure evaluator and the ideal one: values, objects, heaps, what a step leaves alone. -/
import Derived.Test.YtdelfjdjenlaiaaGreatDoorGvCode
import Derived.Test.YtdelfjdjenlaiaaGreatDoorIvRel
set_option linter.unusedSimpArgs false
set_option linter.unusedVariables false
namespace Go.Gv
open Go Go.Iv
theorem GH.ah (H:GH) (b:Nat) (o:bL) (k:Nat):(H.put b o).get k=if k=b then some o else H.get k:=by
 simp only [GH.get,GH.put,Tr.fN,Tr.eV];have:=Tr.ah H.t b (some (H.ck,o)) k;unfold Tr.put at this;rw [this];by_cases hk:k=b<;>simp [hk]
theorem GH.cO (H:GH) (b k:Nat):(H.del b).get k=if k=b then none else H.get k:=by
 simp only [GH.get,GH.del,Tr.fN,Tr.eV];have:=Tr.ah H.t b (none:Option (Nat×bL)) k;unfold Tr.put at this;rw [this];by_cases hk:k=b<;>simp [hk]
theorem GH.az (H:GH) (o:bL) (k:Nat):(H.new o).get k=if k=H.n then some o else H.get k:=by
 simp only [GH.get,GH.new,Tr.fN,Tr.eV];have:=Tr.ah H.t H.n (some (H.ck,o)) k;unfold Tr.put at this;rw [this];by_cases hk:k=H.n<;>simp [hk]
theorem GH.fl (H:GH) (b:Nat) (o:bL) (k:Nat):(H.put b o).aT k=if k=b then some H.ck else H.aT k:=by
 simp only [GH.aT,GH.put,Tr.fN,Tr.eV];have:=Tr.ah H.t b (some (H.ck,o)) k;unfold Tr.put at this;rw [this];by_cases hk:k=b<;>simp [hk]
theorem GH.eB (H:GH) (b k:Nat):(H.del b).aT k=if k=b then none else H.aT k:=by
 simp only [GH.aT,GH.del,Tr.fN,Tr.eV];have:=Tr.ah H.t b (none:Option (Nat×bL)) k;unfold Tr.put at this;rw [this];by_cases hk:k=b<;>simp [hk]
theorem GH.dT (H:GH) (o:bL) (k:Nat):(H.new o).aT k=if k=H.n then some H.ck else H.aT k:=by
 simp only [GH.aT,GH.new,Tr.fN,Tr.eV];have:=Tr.ah H.t H.n (some (H.ck,o)) k;unfold Tr.put at this;rw [this];by_cases hk:k=H.n<;>simp [hk]
theorem GH.iv {H:GH} {id s:Nat} (h:H.aT id=some s):∃ o,H.get id=some o:=by
 unfold GH.aT at h;unfold GH.get;split at h
 ·rename_i s' o heq;exact ⟨o,rfl⟩
 ·cases h
structure Loc where
 pos:Option (Nat×Nat)
 len:Nat
 sz:Nat
 tot:Nat
abbrev bc:=Nat->Option Loc
def iY (cap sz len off tot:Nat):Prop:=cap=eE+sz∨(cap<eE/\len<=cap/\off+cap*sz<=tot)
def cy (Pu:Nat->Prop) (I:IH):(s:Sh)->s.ty->List Value->Prop
 | .int k,n,vs=>vs= [.int k n]
 | .byte,c,vs=>vs= [.int .u8 c.toNat]
 | .bool,b,vs=>vs= [.bool b]
 | .str,s,vs=>vs= [.string (ba s)]
 | .cons a b,x,vs=>∃ u w,vs=u++w/\cy Pu I a x.1 u/\cy Pu I b x.2 w
 | .aJ e,xs,vs=>(xs= []/\vs= [.slice none 0 0])∨(∃ b off cap cs et fz ex sd,vs= [.slice (some ⟨b,off,none⟩) (List.length xs) cap]/\Pu b/\I.get b=some (.cells cs et fz ex sd)/\
   iY cap e.sz (List.length xs) off cs.length/\off+List.length xs*e.sz<=cs.length/\∀ i x,xs[i]? =some x->cy Pu I e x ((cs.drop (off+i*e.sz)).take e.sz))∨(xs= []/\∃ b,vs= [.slice (some ⟨b,0,none⟩) 0 0])
theorem cy.len {Pu:Nat->Prop} {I:IH}:∀ {s:Sh} {x:s.ty} {vs:List Value},cy Pu I s x vs->vs.length=s.sz:=by
 intro s
 induction s with
 |int k=>intro x vs h;unfold cy at h;rw [h];rfl
 |byte=>intro x vs h;unfold cy at h;rw [h];rfl
 |bool=>intro x vs h;unfold cy at h;rw [h];rfl
 |str=>intro x vs h;unfold cy at h;rw [h];rfl
 |cons a b iha ihb=>intro x vs h;unfold cy at h;obtain ⟨u,w,rfl,h1,h2⟩:=h;simp [Sh.sz,iha h1,ihb h2]
 |aJ e ih=>
  intro x vs h;unfold cy at h;rcases h with ⟨_,rfl⟩ |⟨b,off,cap,cs,et,fz,ex,sd,rfl,_⟩ |⟨_,b,rfl⟩<;>rfl
theorem cy.mono {Pu Pu':Nat->Prop} {I I':IH} (hp:∀ b,Pu b->Pu' b) (hi:∀ b,Pu b->I'.get b=I.get b):∀ {s:Sh} {x:s.ty} {vs:List Value},cy Pu I s x vs->cy Pu' I' s x vs:=by
 intro s
 induction s with
 |int k=>intro x vs h;exact h
 |byte=>intro x vs h;exact h
 |bool=>intro x vs h;exact h
 |str=>intro x vs h;exact h
 |cons a b iha ihb=>intro x vs h;unfold cy at h ⊢;obtain ⟨u,w,rfl,h1,h2⟩:=h;exact ⟨u,w,rfl,iha h1,ihb h2⟩
 |aJ e ih=>
  intro x vs h;unfold cy at h ⊢;rcases h with h |⟨b,off,cap,cs,et,fz,ex,sd,rfl,hb,hg,hc,hl,hx⟩ |h
  ·exact .inl h
  ·exact .inr (.inl ⟨b,off,cap,cs,et,fz,ex,sd,rfl,hp b hb,(hi b hb).trans hg,hc,hl,fun i x hi=>ih (hx i x hi)⟩)
  ·exact .inr (.inr h)
def si:Value->Bool
 | .slice none _ _=>true
 |_=>false
def Yp:Value->Nat
 | .slice _ _ c=>c
 |_=>0
def fT (l:Loc) (off len:Nat) (v:Value):Prop:=
 match l.pos with
 |none=>v= .slice none 0 0/\len=0
 |some (b,o)=>∃ cap,v= .slice (some ⟨b,o+off*l.sz,none⟩) len cap/\iY cap l.sz len (o+off*l.sz) l.tot
def SJ (l:Loc) (v:Value):Prop:=match l.pos with
 |none=>v= .map none
 |some (b,_)=>v= .map (some b)
theorem SJ.map {l:Loc} {v:Value} (h:SJ l v):∃ r,v= .map r:=by
 unfold SJ at h;split at h
 ·exact ⟨_,h⟩
 ·exact ⟨_,h⟩
mutual
inductive GR (Γ:bc) (Pu:Nat->Prop) (I:IH):TV->Value->Prop
 |int (k:IntKind) (n:Int):GR Γ Pu I (.int k n) (.int k n)
 |byte (c:UInt8):GR Γ Pu I (.byte c) (.int .u8 c.toNat)
 |bool (b:Bool):GR Γ Pu I (.bool b) (.bool b)
 |str (s:List UInt8):GR Γ Pu I (.str s) (.string (ba s))
 |agg {cs:List TV} {vs:List Value}:bK Γ Pu I cs vs->GR Γ Pu I (.agg cs) (.agg ⟨vs⟩)
 |jg {cs:List TV} {vs:List Value}:bK Γ Pu I cs vs->GR Γ Pu I (.jg cs) (.tuple ⟨vs⟩)
 |aC {e:Sh} {xs:List e.ty} {nl:Option Bool} {cl:Bool} {v:Value}:cy Pu I (.aJ e) xs [v]->(∀ c,nl=some c->si v=c)->(cl=true->Yp v=0/\si v=false)->GR Γ Pu I (.aC e xs nl cl) v
 |all {id:Nat} {l:Loc} {v:Value}:Γ id=some l->fT l 0 l.len v->GR Γ Pu I (.all id) v
 |own {id off len:Nat} {l:Loc} {v:Value}:Γ id=some l->off+len<=l.len->fT l off len v->GR Γ Pu I (.own id off len) v
 |ptr {id off b:Nat} {l:Loc}:Γ id=some l->l.pos=some (b,0)->GR Γ Pu I (.ptr id off) (.pointer (some ⟨b,off,none⟩))
 |oC {cs:List TV} {b off:Nat} {bs:List Value} {et:TypeId} {fz:Nat} {ex sd:Bool}:Pu b->I.get b=some (.cells bs et fz ex sd)->off+cs.length<=bs.length->bK Γ Pu I cs ((bs.drop off).take cs.length)->GR Γ Pu I (.oC cs) (.pointer (some ⟨b,off,none⟩))
 |jd {id i off b o:Nat} {l:Loc}:Γ id=some l->l.pos=some (b,o)->GR Γ Pu I (.jd id i off) (.pointer (some ⟨b,o+i*l.sz+off,none⟩))
 |fn {f:FuncId} {a c:List TV} {a' c':List Value}:bK Γ Pu I a a'->bK Γ Pu I c c'->GR Γ Pu I (.fn f a c) (.func (.func f) ⟨a'⟩ ⟨c'⟩)
 |mX {l b:Nat} {p:Loc}:Γ l=some p->p.pos=some (b,0)->GR Γ Pu I (.mX l) (.func (.yield b) #[] #[])
 |mp {id:Nat} {l:Loc} {v:Value}:Γ id=some l->SJ l v->GR Γ Pu I (.mp id) v
 |raw (v:Value):GR Γ Pu I (.raw v) v
 |undef (v:Value):GR Γ Pu I .undef v
inductive bK (Γ:bc) (Pu:Nat->Prop) (I:IH):List TV->List Value->Prop
 |nil:bK Γ Pu I [] []
 |cons {t:TV} {ts:List TV} {v:Value} {vs:List Value}:GR Γ Pu I t v->bK Γ Pu I ts vs->bK Γ Pu I (t::ts) (v::vs)
end
section
variable {Γ Γ':bc} {Pu Pu':Nat->Prop} {I I':IH}
structure cH (Γ:bc) (Pu:Nat->Prop) (I:IH) (Γ':bc) (Pu':Nat->Prop) (I':IH):Prop where
 g:∀ id l,Γ id=some l->Γ' id=some l
 p:∀ b,Pu b->Pu' b
 i:∀ b,Pu b->I'.get b=I.get b
theorem cH.refl:cH Γ Pu I Γ Pu I:=⟨fun _ _ h=>h,fun _ h=>h,fun _ _=>rfl⟩
theorem cH.trans {Γ'':bc} {Pu'':Nat->Prop} {I'':IH} (h:cH Γ Pu I Γ' Pu' I') (k:cH Γ' Pu' I' Γ'' Pu'' I''):cH Γ Pu I Γ'' Pu'' I'':=
 ⟨fun id l x=>k.g id l (h.g id l x),fun b x=>k.p b (h.p b x),fun b x=>(k.i b (h.p b x)).trans (h.i b x)⟩
mutual
theorem GR.mono (hk:cH Γ Pu I Γ' Pu' I') {t:TV} {v:Value}:GR Γ Pu I t v->GR Γ' Pu' I' t v
 | .int k n=> .int k n
 | .byte c=> .byte c
 | .bool b=> .bool b
 | .str s=> .str s
 | .agg h=> .agg (h.mono hk)
 | .jg h=> .jg (h.mono hk)
 | .aC h a b=> .aC (h.mono hk.p hk.i) a b
 | .all h a=> .all (hk.g _ _ h) a
 | .own h a b=> .own (hk.g _ _ h) a b
 | .ptr h a=> .ptr (hk.g _ _ h) a
 | .oC h a b c=> .oC (hk.p _ h) ((hk.i _ h).trans a) b (c.mono hk)
 | .jd h a=> .jd (hk.g _ _ h) a
 | .fn a c=> .fn (a.mono hk) (c.mono hk)
 | .mX h a=> .mX (hk.g _ _ h) a
 | .mp h a=> .mp (hk.g _ _ h) a
 | .raw v=> .raw v
 | .undef v=> .undef v
theorem bK.mono (hk:cH Γ Pu I Γ' Pu' I') {t:List TV} {v:List Value}:bK Γ Pu I t v->bK Γ' Pu' I' t v
 | .nil=> .nil
 | .cons a b=> .cons (a.mono hk) (b.mono hk)
end
theorem bK.length {l:List TV} {l':List Value} (h:bK Γ Pu I l l'):l'.length=l.length:=by
 induction l generalizing l' with
 |nil=>cases h;rfl
 |cons t l ih=>cases h with |cons a b=>simp [ih b]
theorem bK.get {l:List TV} {l':List Value} (h:bK Γ Pu I l l') {i:Nat} {t:TV} (hi:l[i]? =some t):∃ v,l'[i]? =some v/\GR Γ Pu I t v:=by
 induction l generalizing l' i with
 |nil=>simp at hi
 |cons a l ih=>
  cases h with
  |cons x y=>
   cases i with
   |zero=>simp at hi;subst hi;exact ⟨_,rfl,x⟩
   |succ i=>simpa using ih y (by simpa using hi)
theorem bK.append {a b:List TV} {a' b':List Value} (h:bK Γ Pu I a a') (k:bK Γ Pu I b b'):bK Γ Pu I (a++b) (a'++b'):=by
 induction a generalizing a' with
 |nil=>cases h;exact k
 |cons t l ih=>cases h with |cons x y=>exact .cons x (ih y)
theorem bK.split {a b:List TV} {l:List Value} (h:bK Γ Pu I (a++b) l):∃ u w,l=u++w/\bK Γ Pu I a u/\bK Γ Pu I b w:=by
 induction a generalizing l with
 |nil=>exact ⟨[],l,rfl,.nil,h⟩
 |cons t r ih=>
  cases h with
  |cons x y=>
   obtain ⟨u,w,rfl,h1,h2⟩:=ih y;exact ⟨_::u,w,rfl,.cons x h1,h2⟩
theorem bK.take {a:List TV} {a':List Value} (h:bK Γ Pu I a a') (n:Nat):bK Γ Pu I (a.take n) (a'.take n):=by
 induction a generalizing a' n with
 |nil=>cases h;simp;exact .nil
 |cons t l ih=>cases h with |cons x y=>cases n with
  |zero=>exact .nil
  |succ n=>exact .cons x (ih y n)
theorem bK.drop {a:List TV} {a':List Value} (h:bK Γ Pu I a a') (n:Nat):bK Γ Pu I (a.drop n) (a'.drop n):=by
 induction a generalizing a' n with
 |nil=>cases h;simp;exact .nil
 |cons t l ih=>cases h with |cons x y=>cases n with
  |zero=>exact .cons x y
  |succ n=>exact ih y n
theorem bK.set {a:List TV} {a':List Value} (h:bK Γ Pu I a a') (i:Nat) {t:TV} {v:Value} (hv:GR Γ Pu I t v):bK Γ Pu I (a.set i t) (a'.set i v):=by
 induction a generalizing a' i with
 |nil=>cases h;exact .nil
 |cons t l ih=>cases h with |cons x y=>cases i with
  |zero=>exact .cons hv y
  |succ n=>exact .cons x (ih y n)
theorem bK.ay {vs:List TV} {vs':List Value} (k:bK Γ Pu I vs vs'):∀ {a:List TV} {a':List Value} (_:bK Γ Pu I a a') (i:Nat),bK Γ Pu I (dY a i vs) (ay a' i vs'):=by
 induction vs generalizing vs' with
 |nil=>intro a a' h i;cases k;exact h
 |cons t l ih=>intro a a' h i;cases k with |cons x y=>exact ih y (h.set i x) (i+1)
theorem cy.de:∀ {s:Sh} {x:s.ty} {vs:List Value},cy Pu I s x vs->bK Γ Pu I (s.de x) vs:=by
 intro s
 induction s with
 |int k=>intro x vs h;unfold cy at h;subst h;exact .cons (.int k x) .nil
 |byte=>intro x vs h;unfold cy at h;subst h;exact .cons (.byte x) .nil
 |bool=>intro x vs h;unfold cy at h;subst h;exact .cons (.bool x) .nil
 |str=>intro x vs h;unfold cy at h;subst h;exact .cons (.str x) .nil
 |cons a b iha ihb=>intro x vs h;unfold cy at h;obtain ⟨u,w,rfl,h1,h2⟩:=h;exact (iha h1).append (ihb h2)
 |aJ e ih=>
  intro x vs h;have h0:=h;unfold cy at h;have:∃ v,vs= [v]:=by
   rcases h with ⟨_,rfl⟩ |⟨b,off,cap,cs,et,fz,ex,sd,rfl,_⟩ |⟨_,b,rfl⟩<;>exact ⟨_,rfl⟩
  obtain ⟨v,rfl⟩:=this;exact .cons (.aC h0 (fun c hc=>by cases hc) (fun hc=>by cases hc)) .nil
theorem Gm {e:Sh} {l r:List TV} {x:List e.ty} {vs:List Value} (h:An e l=some (x,r)) (hr:bK Γ Pu I l vs):∃ u w,vs=u++w/\cy Pu I (.aJ e) x u/\bK Γ Pu I r w:=by
 unfold An at h;split at h
 ·rename_i e' xs nl cl r'
  split at h
  ·rename_i hh hs
   subst hh;cases h;cases hr with |cons a b=>cases a with |aC ha _ _=>exact ⟨[_],_,rfl,ha,b⟩
  ·cases h
 ·cases h
  cases hr with |cons a b=>cases a;exact ⟨[_],_,rfl,.inl ⟨rfl,rfl⟩,b⟩
 ·cases h
theorem Sh.Au:∀ {s:Sh} {l r:List TV} {x:s.ty} {vs:List Value},s.of l=some (x,r)->bK Γ Pu I l vs->∃ u w,vs=u++w/\cy Pu I s x u/\bK Γ Pu I r w:=by
 intro s
 induction s with
 |int k=>
  intro l r x vs h hr;simp only [Sh.of] at h;unfold ofInt at h;split at h
  ·split at h
   ·rename_i hk;subst hk;cases h
    cases hr with |cons a b=>cases a;exact ⟨[_],_,rfl,rfl,b⟩
   ·cases h
  ·cases h
 |byte=>
  intro l r x vs h hr;simp only [Sh.of] at h;unfold BU at h;split at h
  ·cases h;cases hr with |cons a b=>cases a;exact ⟨[_],_,rfl,rfl,b⟩
  ·cases h
 |bool=>
  intro l r x vs h hr;simp only [Sh.of] at h;unfold ofBool at h;split at h
  ·cases h;cases hr with |cons a b=>cases a;exact ⟨[_],_,rfl,rfl,b⟩
  ·cases h
 |str=>
  intro l r x vs h hr;simp only [Sh.of] at h;unfold ofStr at h;split at h
  ·cases h;cases hr with |cons a b=>cases a;exact ⟨[_],_,rfl,rfl,b⟩
  ·cases h
 |cons a b iha ihb=>
  intro l r x vs h hr;simp only [Sh.of] at h;split at h
  ·rename_i y l1 h1
   split at h
   ·rename_i z l2 h2
    cases h;obtain ⟨u,w,rfl,e1,r1⟩:=iha h1 hr;obtain ⟨u2,w2,rfl,e2,r2⟩:=ihb h2 r1;exact ⟨u++u2,w2,by simp,⟨u,u2,rfl,e1,e2⟩,r2⟩
   ·cases h
  ·cases h
 |aJ e ih=>
  intro l r x vs h hr;simp only [Sh.of] at h;exact Gm h hr
theorem Sh.eg {s:Sh} {l:List TV} {x:s.ty} {vs:List Value} (h:s.jj l=some x) (hr:bK Γ Pu I l vs):cy Pu I s x vs:=by
 unfold Sh.jj at h;split at h
 ·rename_i y heq
  cases h;obtain ⟨u,w,rfl,e1,r1⟩:=Sh.Au heq hr;cases r1;simpa using e1
 ·cases h
inductive sO (Pu:Nat->Prop) (I:IH) (g:Bool) (s:Sh) (x:s.ty) (v:Value):Prop
 |mk:cy Pu I s x v.cells.toList->(g=true->∃ cs,v= .agg cs)->(g=false->v.cells.toList= [v])->sO Pu I g s x v
theorem sO.gr {g:Bool} {s:Sh} {x:s.ty} {v:Value} (h:sO Pu I g s x v):GR Γ Pu I (bif g then .agg (s.de x) else (s.de x).headD .undef) v:=by
 obtain ⟨h1,h2,h3⟩:=h;have hr:=h1.de (Γ:=Γ);cases g with
 |true=>
  obtain ⟨cs,rfl⟩:=h2 rfl;exact .agg hr
 |false=>
  rw [h3 rfl] at hr;cases hq:s.de x with
  |nil=>rw [hq] at hr;cases hr
  |cons t r=>
   rw [hq] at hr;cases hr with |cons a b=>exact a
theorem sO.mono {g:Bool} {s:Sh} {x:s.ty} {v:Value} (hp:∀ b,Pu b->Pu' b) (hi:∀ b,Pu b->I'.get b=I.get b) (h:sO Pu I g s x v):sO Pu' I' g s x v:=by
 obtain ⟨h1,h2,h3⟩:=h;exact ⟨h1.mono hp hi,h2,h3⟩
def np (Pu:Nat->Prop) (I:IH) (gk ge:Bool) (k e:Sh):List (k.ty×e.ty)->List MapEntry->Prop
 | [],es=>es= []
 |p::r,es=>∃ n t,es=n::t/\sO Pu I gk k p.1 n.key/\sO Pu I ge e p.2 n.val/\np Pu I gk ge k e r t
theorem np.mono (hp:∀ b,Pu b->Pu' b) (hi:∀ b,Pu b->I'.get b=I.get b) {gk ge:Bool} {k e:Sh}:∀ {xs:List (k.ty×e.ty)} {es:List MapEntry},np Pu I gk ge k e xs es->np Pu' I' gk ge k e xs es:=by
 intro xs
 induction xs with
 |nil=>intro es h;exact h
 |cons p r ih=>
  intro es h;obtain ⟨n,t,rfl,h1,h2,h3⟩:=h;exact ⟨n,t,rfl,h1.mono hp hi,h2.mono hp hi,ih h3⟩
theorem np.len {gk ge:Bool} {k e:Sh}:∀ {xs:List (k.ty×e.ty)} {es:List MapEntry},np Pu I gk ge k e xs es->es.length=xs.length:=by
 intro xs
 induction xs with
 |nil=>intro es h;unfold np at h;subst h;rfl
 |cons p r ih=>intro es h;obtain ⟨n,t,rfl,_,_,h3⟩:=h;simp [ih h3]
end
end Go.Gv
