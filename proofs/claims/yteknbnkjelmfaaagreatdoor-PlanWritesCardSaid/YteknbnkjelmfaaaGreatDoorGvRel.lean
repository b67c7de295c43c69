/- What stands between the pure evaluator and the ideal one: values, objects, heaps, what a step leaves alone. -/
import Derived.Test.YteknbnkjelmfaaaGreatDoorGvCode
import Derived.Test.YteknbnkjelmfaaaGreatDoorIvRel
set_option linter.unusedSimpArgs false
set_option linter.unusedVariables false
namespace Go.Gv
open Go Go.Iv
theorem GH.an (H:GH) (b:Nat) (o:bH) (k:Nat):(H.put b o).get k=if k=b then some o else H.get k:=by
 simp only [GH.get,GH.put,Tr.fg,Tr.eL];have:=Tr.an H.t b (some (H.ck,o)) k;unfold Tr.put at this;rw [this];by_cases hk:k=b<;>simp [hk]
theorem GH.eg (H:GH) (b k:Nat):(H.del b).get k=if k=b then none else H.get k:=by
 simp only [GH.get,GH.del,Tr.fg,Tr.eL];have:=Tr.an H.t b (none:Option (Nat×bH)) k;unfold Tr.put at this;rw [this];by_cases hk:k=b<;>simp [hk]
theorem GH.aG (H:GH) (o:bH) (k:Nat):(H.new o).get k=if k=H.n then some o else H.get k:=by
 simp only [GH.get,GH.new,Tr.fg,Tr.eL];have:=Tr.an H.t H.n (some (H.ck,o)) k;unfold Tr.put at this;rw [this];by_cases hk:k=H.n<;>simp [hk]
theorem GH.gZ (H:GH) (b:Nat) (o:bH) (k:Nat):(H.put b o).br k=if k=b then some H.ck else H.br k:=by
 simp only [GH.br,GH.put,Tr.fg,Tr.eL];have:=Tr.an H.t b (some (H.ck,o)) k;unfold Tr.put at this;rw [this];by_cases hk:k=b<;>simp [hk]
theorem GH.ik (H:GH) (b k:Nat):(H.del b).br k=if k=b then none else H.br k:=by
 simp only [GH.br,GH.del,Tr.fg,Tr.eL];have:=Tr.an H.t b (none:Option (Nat×bH)) k;unfold Tr.put at this;rw [this];by_cases hk:k=b<;>simp [hk]
theorem GH.eV (H:GH) (o:bH) (k:Nat):(H.new o).br k=if k=H.n then some H.ck else H.br k:=by
 simp only [GH.br,GH.new,Tr.fg,Tr.eL];have:=Tr.an H.t H.n (some (H.ck,o)) k;unfold Tr.put at this;rw [this];by_cases hk:k=H.n<;>simp [hk]
theorem GH.ig {H:GH} {id s:Nat} (h:H.br id=some s):∃ o,H.get id=some o:=by
 unfold GH.br at h;unfold GH.get;split at h
 ·rename_i s' o heq;exact ⟨o,rfl⟩
 ·cases h
structure Loc where
 pos:Option (Nat×Nat)
 len:Nat
 sz:Nat
 tot:Nat
abbrev bj:=Nat->Option Loc
def yS (cap sz len off tot:Nat):Prop:=cap=gz+sz∨(cap<gz/\len<=cap/\off+cap*sz<=tot)
def bW (Pu:Nat->Prop) (I:IH):(s:Sh)->s.ty->List Value->Prop
 | .int k,n,vs=>vs= [.int k n]
 | .byte,c,vs=>vs= [.int .u8 c.toNat]
 | .bool,b,vs=>vs= [.bool b]
 | .str,s,vs=>vs= [.string (ba s)]
 | .cons a b,x,vs=>∃ u w,vs=u++w/\bW Pu I a x.1 u/\bW Pu I b x.2 w
 | .cy e,xs,vs=>(xs= []/\vs= [.slice none 0 0])∨(∃ b off cap cs et fz ex sd,vs= [.slice (some ⟨b,off,none⟩) (List.length xs) cap]/\Pu b/\I.get b=some (.cells cs et fz ex sd)/\
   yS cap e.sz (List.length xs) off cs.length/\off+List.length xs*e.sz<=cs.length/\∀ i x,xs[i]? =some x->bW Pu I e x ((cs.drop (off+i*e.sz)).take e.sz))∨(xs= []/\∃ b,vs= [.slice (some ⟨b,0,none⟩) 0 0])
theorem bW.len {Pu:Nat->Prop} {I:IH}:∀ {s:Sh} {x:s.ty} {vs:List Value},bW Pu I s x vs->vs.length=s.sz:=by
 intro s
 induction s with
 |int k=>intro x vs h;unfold bW at h;rw [h];rfl
 |byte=>intro x vs h;unfold bW at h;rw [h];rfl
 |bool=>intro x vs h;unfold bW at h;rw [h];rfl
 |str=>intro x vs h;unfold bW at h;rw [h];rfl
 |cons a b iha ihb=>intro x vs h;unfold bW at h;obtain ⟨u,w,rfl,h1,h2⟩:=h;simp [Sh.sz,iha h1,ihb h2]
 |cy e ih=>
  intro x vs h;unfold bW at h;rcases h with ⟨_,rfl⟩ |⟨b,off,cap,cs,et,fz,ex,sd,rfl,_⟩ |⟨_,b,rfl⟩<;>rfl
theorem bW.mono {Pu Pu':Nat->Prop} {I I':IH} (hp:∀ b,Pu b->Pu' b) (hi:∀ b,Pu b->I'.get b=I.get b):∀ {s:Sh} {x:s.ty} {vs:List Value},bW Pu I s x vs->bW Pu' I' s x vs:=by
 intro s
 induction s with
 |int k=>intro x vs h;exact h
 |byte=>intro x vs h;exact h
 |bool=>intro x vs h;exact h
 |str=>intro x vs h;exact h
 |cons a b iha ihb=>intro x vs h;unfold bW at h ⊢;obtain ⟨u,w,rfl,h1,h2⟩:=h;exact ⟨u,w,rfl,iha h1,ihb h2⟩
 |cy e ih=>
  intro x vs h;unfold bW at h ⊢;rcases h with h |⟨b,off,cap,cs,et,fz,ex,sd,rfl,hb,hg,hc,hl,hx⟩ |h
  ·exact .inl h
  ·exact .inr (.inl ⟨b,off,cap,cs,et,fz,ex,sd,rfl,hp b hb,(hi b hb).trans hg,hc,hl,fun i x hi=>ih (hx i x hi)⟩)
  ·exact .inr (.inr h)
def rf:Value->Bool
 | .slice none _ _=>true
 |_=>false
def Xm:Value->Nat
 | .slice _ _ c=>c
 |_=>0
def iq (l:Loc) (off len:Nat) (v:Value):Prop:=
 match l.pos with
 |none=>v= .slice none 0 0/\len=0
 |some (b,o)=>∃ cap,v= .slice (some ⟨b,o+off*l.sz,none⟩) len cap/\yS cap l.sz len (o+off*l.sz) l.tot
def RI (l:Loc) (v:Value):Prop:=match l.pos with
 |none=>v= .map none
 |some (b,_)=>v= .map (some b)
theorem RI.map {l:Loc} {v:Value} (h:RI l v):∃ r,v= .map r:=by
 unfold RI at h;split at h
 ·exact ⟨_,h⟩
 ·exact ⟨_,h⟩
mutual
inductive GR (Γ:bj) (Pu:Nat->Prop) (I:IH):TV->Value->Prop
 |int (k:IntKind) (n:Int):GR Γ Pu I (.int k n) (.int k n)
 |byte (c:UInt8):GR Γ Pu I (.byte c) (.int .u8 c.toNat)
 |bool (b:Bool):GR Γ Pu I (.bool b) (.bool b)
 |str (s:List UInt8):GR Γ Pu I (.str s) (.string (ba s))
 |agg {cs:List TV} {vs:List Value}:bI Γ Pu I cs vs->GR Γ Pu I (.agg cs) (.agg ⟨vs⟩)
 |jD {cs:List TV} {vs:List Value}:bI Γ Pu I cs vs->GR Γ Pu I (.jD cs) (.tuple ⟨vs⟩)
 |aT {e:Sh} {xs:List e.ty} {nl:Option Bool} {cl:Bool} {v:Value}:bW Pu I (.cy e) xs [v]->(∀ c,nl=some c->rf v=c)->(cl=true->Xm v=0/\rf v=false)->GR Γ Pu I (.aT e xs nl cl) v
 |all {id:Nat} {l:Loc} {v:Value}:Γ id=some l->iq l 0 l.len v->GR Γ Pu I (.all id) v
 |own {id off len:Nat} {l:Loc} {v:Value}:Γ id=some l->off+len<=l.len->iq l off len v->GR Γ Pu I (.own id off len) v
 |ptr {id off b:Nat} {l:Loc}:Γ id=some l->l.pos=some (b,0)->GR Γ Pu I (.ptr id off) (.pointer (some ⟨b,off,none⟩))
 |oe {cs:List TV} {b off:Nat} {bs:List Value} {et:TypeId} {fz:Nat} {ex sd:Bool}:Pu b->I.get b=some (.cells bs et fz ex sd)->off+cs.length<=bs.length->bI Γ Pu I cs ((bs.drop off).take cs.length)->GR Γ Pu I (.oe cs) (.pointer (some ⟨b,off,none⟩))
 |ng {id i off b o:Nat} {l:Loc}:Γ id=some l->l.pos=some (b,o)->GR Γ Pu I (.ng id i off) (.pointer (some ⟨b,o+i*l.sz+off,none⟩))
 |fn {f:FuncId} {a c:List TV} {a' c':List Value}:bI Γ Pu I a a'->bI Γ Pu I c c'->GR Γ Pu I (.fn f a c) (.func (.func f) ⟨a'⟩ ⟨c'⟩)
 |mI {l b:Nat} {p:Loc}:Γ l=some p->p.pos=some (b,0)->GR Γ Pu I (.mI l) (.func (.yield b) #[] #[])
 |mp {id:Nat} {l:Loc} {v:Value}:Γ id=some l->RI l v->GR Γ Pu I (.mp id) v
 |raw (v:Value):GR Γ Pu I (.raw v) v
 |undef (v:Value):GR Γ Pu I .undef v
inductive bI (Γ:bj) (Pu:Nat->Prop) (I:IH):List TV->List Value->Prop
 |nil:bI Γ Pu I [] []
 |cons {t:TV} {ts:List TV} {v:Value} {vs:List Value}:GR Γ Pu I t v->bI Γ Pu I ts vs->bI Γ Pu I (t::ts) (v::vs)
end
section
variable {Γ Γ':bj} {Pu Pu':Nat->Prop} {I I':IH}
structure db (Γ:bj) (Pu:Nat->Prop) (I:IH) (Γ':bj) (Pu':Nat->Prop) (I':IH):Prop where
 g:∀ id l,Γ id=some l->Γ' id=some l
 p:∀ b,Pu b->Pu' b
 i:∀ b,Pu b->I'.get b=I.get b
theorem db.refl:db Γ Pu I Γ Pu I:=⟨fun _ _ h=>h,fun _ h=>h,fun _ _=>rfl⟩
theorem db.trans {Γ'':bj} {Pu'':Nat->Prop} {I'':IH} (h:db Γ Pu I Γ' Pu' I') (k:db Γ' Pu' I' Γ'' Pu'' I''):db Γ Pu I Γ'' Pu'' I'':=
 ⟨fun id l x=>k.g id l (h.g id l x),fun b x=>k.p b (h.p b x),fun b x=>(k.i b (h.p b x)).trans (h.i b x)⟩
mutual
theorem GR.mono (hk:db Γ Pu I Γ' Pu' I') {t:TV} {v:Value}:GR Γ Pu I t v->GR Γ' Pu' I' t v
 | .int k n=> .int k n
 | .byte c=> .byte c
 | .bool b=> .bool b
 | .str s=> .str s
 | .agg h=> .agg (h.mono hk)
 | .jD h=> .jD (h.mono hk)
 | .aT h a b=> .aT (h.mono hk.p hk.i) a b
 | .all h a=> .all (hk.g _ _ h) a
 | .own h a b=> .own (hk.g _ _ h) a b
 | .ptr h a=> .ptr (hk.g _ _ h) a
 | .oe h a b c=> .oe (hk.p _ h) ((hk.i _ h).trans a) b (c.mono hk)
 | .ng h a=> .ng (hk.g _ _ h) a
 | .fn a c=> .fn (a.mono hk) (c.mono hk)
 | .mI h a=> .mI (hk.g _ _ h) a
 | .mp h a=> .mp (hk.g _ _ h) a
 | .raw v=> .raw v
 | .undef v=> .undef v
theorem bI.mono (hk:db Γ Pu I Γ' Pu' I') {t:List TV} {v:List Value}:bI Γ Pu I t v->bI Γ' Pu' I' t v
 | .nil=> .nil
 | .cons a b=> .cons (a.mono hk) (b.mono hk)
end
theorem bI.length {l:List TV} {l':List Value} (h:bI Γ Pu I l l'):l'.length=l.length:=by
 induction l generalizing l' with
 |nil=>cases h;rfl
 |cons t l ih=>cases h with |cons a b=>simp [ih b]
theorem bI.get {l:List TV} {l':List Value} (h:bI Γ Pu I l l') {i:Nat} {t:TV} (hi:l[i]? =some t):∃ v,l'[i]? =some v/\GR Γ Pu I t v:=by
 induction l generalizing l' i with
 |nil=>simp at hi
 |cons a l ih=>
  cases h with
  |cons x y=>
   cases i with
   |zero=>simp at hi;subst hi;exact ⟨_,rfl,x⟩
   |succ i=>simpa using ih y (by simpa using hi)
theorem bI.append {a b:List TV} {a' b':List Value} (h:bI Γ Pu I a a') (k:bI Γ Pu I b b'):bI Γ Pu I (a++b) (a'++b'):=by
 induction a generalizing a' with
 |nil=>cases h;exact k
 |cons t l ih=>cases h with |cons x y=>exact .cons x (ih y)
theorem bI.split {a b:List TV} {l:List Value} (h:bI Γ Pu I (a++b) l):∃ u w,l=u++w/\bI Γ Pu I a u/\bI Γ Pu I b w:=by
 induction a generalizing l with
 |nil=>exact ⟨[],l,rfl,.nil,h⟩
 |cons t r ih=>
  cases h with
  |cons x y=>
   obtain ⟨u,w,rfl,h1,h2⟩:=ih y;exact ⟨_::u,w,rfl,.cons x h1,h2⟩
theorem bI.take {a:List TV} {a':List Value} (h:bI Γ Pu I a a') (n:Nat):bI Γ Pu I (a.take n) (a'.take n):=by
 induction a generalizing a' n with
 |nil=>cases h;simp;exact .nil
 |cons t l ih=>cases h with |cons x y=>cases n with
  |zero=>exact .nil
  |succ n=>exact .cons x (ih y n)
theorem bI.drop {a:List TV} {a':List Value} (h:bI Γ Pu I a a') (n:Nat):bI Γ Pu I (a.drop n) (a'.drop n):=by
 induction a generalizing a' n with
 |nil=>cases h;simp;exact .nil
 |cons t l ih=>cases h with |cons x y=>cases n with
  |zero=>exact .cons x y
  |succ n=>exact ih y n
theorem bI.set {a:List TV} {a':List Value} (h:bI Γ Pu I a a') (i:Nat) {t:TV} {v:Value} (hv:GR Γ Pu I t v):bI Γ Pu I (a.set i t) (a'.set i v):=by
 induction a generalizing a' i with
 |nil=>cases h;exact .nil
 |cons t l ih=>cases h with |cons x y=>cases i with
  |zero=>exact .cons hv y
  |succ n=>exact .cons x (ih y n)
theorem bI.aF {vs:List TV} {vs':List Value} (k:bI Γ Pu I vs vs'):∀ {a:List TV} {a':List Value} (_:bI Γ Pu I a a') (i:Nat),bI Γ Pu I (kC a i vs) (aF a' i vs'):=by
 induction vs generalizing vs' with
 |nil=>intro a a' h i;cases k;exact h
 |cons t l ih=>intro a a' h i;cases k with |cons x y=>exact ih y (h.set i x) (i+1)
theorem bW.dN:∀ {s:Sh} {x:s.ty} {vs:List Value},bW Pu I s x vs->bI Γ Pu I (s.dN x) vs:=by
 intro s
 induction s with
 |int k=>intro x vs h;unfold bW at h;subst h;exact .cons (.int k x) .nil
 |byte=>intro x vs h;unfold bW at h;subst h;exact .cons (.byte x) .nil
 |bool=>intro x vs h;unfold bW at h;subst h;exact .cons (.bool x) .nil
 |str=>intro x vs h;unfold bW at h;subst h;exact .cons (.str x) .nil
 |cons a b iha ihb=>intro x vs h;unfold bW at h;obtain ⟨u,w,rfl,h1,h2⟩:=h;exact (iha h1).append (ihb h2)
 |cy e ih=>
  intro x vs h;have h0:=h;unfold bW at h;have:∃ v,vs= [v]:=by
   rcases h with ⟨_,rfl⟩ |⟨b,off,cap,cs,et,fz,ex,sd,rfl,_⟩ |⟨_,b,rfl⟩<;>exact ⟨_,rfl⟩
  obtain ⟨v,rfl⟩:=this;exact .cons (.aT h0 (fun c hc=>by cases hc) (fun hc=>by cases hc)) .nil
theorem Ep {e:Sh} {l r:List TV} {x:List e.ty} {vs:List Value} (h:FM e l=some (x,r)) (hr:bI Γ Pu I l vs):∃ u w,vs=u++w/\bW Pu I (.cy e) x u/\bI Γ Pu I r w:=by
 unfold FM at h;split at h
 ·rename_i e' xs nl cl r'
  split at h
  ·rename_i hh hs
   subst hh;cases h;cases hr with |cons a b=>cases a with |aT ha _ _=>exact ⟨[_],_,rfl,ha,b⟩
  ·cases h
 ·cases h
  cases hr with |cons a b=>cases a;exact ⟨[_],_,rfl,.inl ⟨rfl,rfl⟩,b⟩
 ·cases h
theorem Sh.sX:∀ {s:Sh} {l r:List TV} {x:s.ty} {vs:List Value},s.of l=some (x,r)->bI Γ Pu I l vs->∃ u w,vs=u++w/\bW Pu I s x u/\bI Γ Pu I r w:=by
 intro s
 induction s with
 |int k=>
  intro l r x vs h hr;simp only [Sh.of] at h;unfold ofInt at h;split at h
  ·split at h
   ·rename_i hk;subst hk;cases h
    cases hr with |cons a b=>cases a;exact ⟨[_],_,rfl,rfl,b⟩
   ·cases h
  ·cases h
 |byte=>
  intro l r x vs h hr;simp only [Sh.of] at h;unfold JC at h;split at h
  ·cases h;cases hr with |cons a b=>cases a;exact ⟨[_],_,rfl,rfl,b⟩
  ·cases h
 |bool=>
  intro l r x vs h hr;simp only [Sh.of] at h;unfold ofBool at h;split at h
  ·cases h;cases hr with |cons a b=>cases a;exact ⟨[_],_,rfl,rfl,b⟩
  ·cases h
 |str=>
  intro l r x vs h hr;simp only [Sh.of] at h;unfold ofStr at h;split at h
  ·cases h;cases hr with |cons a b=>cases a;exact ⟨[_],_,rfl,rfl,b⟩
  ·cases h
 |cons a b iha ihb=>
  intro l r x vs h hr;simp only [Sh.of] at h;split at h
  ·rename_i y l1 h1
   split at h
   ·rename_i z l2 h2
    cases h;obtain ⟨u,w,rfl,e1,r1⟩:=iha h1 hr;obtain ⟨u2,w2,rfl,e2,r2⟩:=ihb h2 r1;exact ⟨u++u2,w2,by simp,⟨u,u2,rfl,e1,e2⟩,r2⟩
   ·cases h
  ·cases h
 |cy e ih=>
  intro l r x vs h hr;simp only [Sh.of] at h;exact Ep h hr
theorem Sh.fZ {s:Sh} {l:List TV} {x:s.ty} {vs:List Value} (h:s.nH l=some x) (hr:bI Γ Pu I l vs):bW Pu I s x vs:=by
 unfold Sh.nH at h;split at h
 ·rename_i y heq
  cases h;obtain ⟨u,w,rfl,e1,r1⟩:=Sh.sX heq hr;cases r1;simpa using e1
 ·cases h
inductive te (Pu:Nat->Prop) (I:IH) (g:Bool) (s:Sh) (x:s.ty) (v:Value):Prop
 |mk:bW Pu I s x v.cells.toList->(g=true->∃ cs,v= .agg cs)->(g=false->v.cells.toList= [v])->te Pu I g s x v
theorem te.gr {g:Bool} {s:Sh} {x:s.ty} {v:Value} (h:te Pu I g s x v):GR Γ Pu I (bif g then .agg (s.dN x) else (s.dN x).headD .undef) v:=by
 obtain ⟨h1,h2,h3⟩:=h;have hr:=h1.dN (Γ:=Γ);cases g with
 |true=>
  obtain ⟨cs,rfl⟩:=h2 rfl;exact .agg hr
 |false=>
  rw [h3 rfl] at hr;cases hq:s.dN x with
  |nil=>rw [hq] at hr;cases hr
  |cons t r=>
   rw [hq] at hr;cases hr with |cons a b=>exact a
theorem te.mono {g:Bool} {s:Sh} {x:s.ty} {v:Value} (hp:∀ b,Pu b->Pu' b) (hi:∀ b,Pu b->I'.get b=I.get b) (h:te Pu I g s x v):te Pu' I' g s x v:=by
 obtain ⟨h1,h2,h3⟩:=h;exact ⟨h1.mono hp hi,h2,h3⟩
def mW (Pu:Nat->Prop) (I:IH) (gk ge:Bool) (k e:Sh):List (k.ty×e.ty)->List MapEntry->Prop
 | [],es=>es= []
 |p::r,es=>∃ n t,es=n::t/\te Pu I gk k p.1 n.key/\te Pu I ge e p.2 n.val/\mW Pu I gk ge k e r t
theorem mW.mono (hp:∀ b,Pu b->Pu' b) (hi:∀ b,Pu b->I'.get b=I.get b) {gk ge:Bool} {k e:Sh}:∀ {xs:List (k.ty×e.ty)} {es:List MapEntry},mW Pu I gk ge k e xs es->mW Pu' I' gk ge k e xs es:=by
 intro xs
 induction xs with
 |nil=>intro es h;exact h
 |cons p r ih=>
  intro es h;obtain ⟨n,t,rfl,h1,h2,h3⟩:=h;exact ⟨n,t,rfl,h1.mono hp hi,h2.mono hp hi,ih h3⟩
theorem mW.len {gk ge:Bool} {k e:Sh}:∀ {xs:List (k.ty×e.ty)} {es:List MapEntry},mW Pu I gk ge k e xs es->es.length=xs.length:=by
 intro xs
 induction xs with
 |nil=>intro es h;unfold mW at h;subst h;rfl
 |cons p r ih=>intro es h;obtain ⟨n,t,rfl,_,_,h3⟩:=h;simp [ih h3]
end
end Go.Gv
