/- Functions that call themselves: the calls within are an oracle's; then by depth. -/
import Derived.Test.YtdelfjdjenlaiaaGreatDoorGvRow
import Derived.Lib.LaidTab
import Derived.Shelf.Strconv.Itoa3
import Derived.Lib.AppendIntMem
import Derived.Shelf.Strings.SlTrimAscii
import Derived.Shelf.Unicode.ValidAny
set_option linter.unusedSimpArgs false
set_option linter.unusedVariables false
namespace Go.Gv
open Go Go.Iv
variable {P:Program} {hint:Hint} {sh:cA}
theorem aI.zero {f:FuncId} {pa re:List (Bool×Sh)} {F:Nat->ak pa->Option (ak re)} (h:∀ n x,F n x=none) (n:Nat):aI P hint sh ⟨f,pa,re,0,F⟩ n where
 run:=fun {x y Γ Pu I vs} hF _ _=>by
  have h2:F n x=some y:=hF;rw [h] at h2;cases h2
theorem aI.Cc {f:FuncId} {pa re:List (Bool×Sh)} {D:Nat} (b:(Nat->ak pa->Option (ak re))->Nat->ak pa->Option (ak re)) (Fd:Nat->Nat->ak pa->Option (ak re))
  (h0:∀ n x,Fd 0 n x=none) (hs:∀ d n x,Fd (d+1) n x=bif Nat.ble D n then b (Fd d) (n - D) x else none)
  (hb:∀ Fr,(∀ m,aI P hint sh ⟨f,pa,re,0,Fr⟩ m)->∀ n,aI P hint sh ⟨f,pa,re,D,b Fr⟩ n):∀ d n,aI P hint sh ⟨f,pa,re,0,Fd d⟩ n:=by
 intro d
 induction d with
 |zero=>exact fun n=>aI.zero h0 n
 |succ d ih=>
  intro n;refine ⟨fun {x y Γ Pu I vs} hF hS hD=>?_⟩;have h2:Fd (d+1) n x=some y:=hF;rw [hs] at h2;cases hle:Nat.ble D n with
  |false=>rw [hle] at h2;cases h2
  |true=>
   rw [hle,zac] at h2;have hD2:n - D+D=n:=Nat.sub_add_cancel (Nat.le_of_ble_eq_true hle);have:=(hb (Fd d) ih (n - D)).run (x:=x) (y:=y) (Γ:=Γ) h2 hS hD;simp only [hD2] at this;exact this
theorem aI.diag {f:FuncId} {pa re:List (Bool×Sh)} (Fd:Nat->Nat->ak pa->Option (ak re)) (h:∀ d n,aI P hint sh ⟨f,pa,re,0,Fd d⟩ n) (n:Nat):aI P hint sh ⟨f,pa,re,0,fun n x=>Fd n n x⟩ n:=
 ⟨fun {x y Γ Pu I vs} hF hS hD=>(h n n).run (x:=x) (y:=y) (Γ:=Γ) hF hS hD⟩
end Go.Gv
/- Any data of the caller's, nested ones too: from a row's arguments to the pure functions. -/
namespace Go.Gv
open Go Go.Iv Go.RowKit Go.ChangeShapes Go.WideShapes
variable {P:Program} {H:Type} {enc:TypeId×Value->H}
def Tk (P:Program) (r:TypeId->Option Sh):Nat->List Field->Option Sh
 |_,[]=>none
 |off,f::fs=>match r f.type with
  |some s=>bif Nat.beq f.offset off &&Nat.beq (P.cellsOf f.type) s.sz then
    match fs with
    | []=>some s
    |fs=>match Tk P r (off+s.sz) fs with
     |some q=>some (.cons s q)
     |none=>none
   else none
  |none=>none
def Nq (P:Program):Nat->TypeId->Option Sh
 |0,_=>none
 |n+1,t=>match P.underlying t with
  |some (.int .u8)=>some .byte
  |some (.int k)=>some (.int k)
  |some .bool=>some .bool
  |some .string=>some .str
  |some (.slice e)=>match Nq P n e with
   |some s=>bif Nat.beq (P.cellsOf e) s.sz &&Nat.ble 1 s.sz &&Nat.ble 1 (P.bytesOf e) then some (.aJ s) else none
   |none=>none
  |some (.struct fs)=>match Tk P (Nq P n) 0 fs.toList with
   |some s=>bif Nat.beq (P.cellsOf t) s.sz then some s else none
   |none=>none
  |_=>none
def Sh.bd:Sh->Nat
 | .cons a b=>a.bd+b.bd
 | .aJ e=>1+reachBytes*e.bd
 |_=>0
def Sh.Wn (R:Nat):(s:Sh)->s.ty->Prop
 | .int k,n=>(Lit.int k n).wf=true
 | .byte,_=>True
 | .bool,_=>True
 | .str,s=>List.length s<=R
 | .cons a b,x=>a.Wn R x.1/\b.Wn R x.2
 | .aJ e,xs=>List.length xs<=R/\∀ x∈xs,e.Wn R x
abbrev Sh.wf (s:Sh) (x:s.ty):Prop:=s.Wn reachBytes x
structure Yd (R:Nat) (W:World) (l:List GV) (φ:Nat->Nat×Nat) (m:Nat) (s:Sh) (bd:Nat) (cs:List Value):Prop where
 all:∃ l' φ' m' vs x,ri W l' φ' m'/\kj l φ m l' φ' m'/\m'<=m+bd/\cy (HD l') (bn l') s x vs/\cB (bX φ' m') W vs cs/\s.Wn R x
theorem kj.trans {l l' l2:List GV} {φ φ' φ2:Nat->Nat×Nat} {m m' m2:Nat} (h:kj l φ m l' φ' m') (k:kj l' φ' m' l2 φ2 m2):kj l φ m l2 φ2 m2:=
 ⟨h.g.trans k.g,fun b o x=>k.h b o (h.h b o x)⟩
theorem kj.Zn {l l':List GV} {φ φ':Nat->Nat×Nat} {m m':Nat} (h:kj l φ m l' φ' m') {W:World} {v v':List Value} (hv:cB (bX φ m) W v v'):cB (bX φ' m') W v v':=hv.mono h.g (.refl _)
theorem JS {W:World} {a:Addr} {n:Nat} {cs:List Value} (h:W.cells? 0 a n=some cs):cs.length=n/\∀ j v,cs[j]? =some v->W.cell? (a.add j)=some v:=by
 unfold World.cells? at h;rw [if_pos (Nat.zero_le _)] at h;refine ⟨by rw [Lib.mapM_length h];simp,fun j v hv=>?_⟩;have hj:j<n:=by
  have:=(List.getElem?_eq_some_iff.1 hv).1;rw [Lib.mapM_length h] at this;simpa using this
 obtain ⟨b,hb,hf⟩:=Lib.mapM_at h j j (by simp [hj]);rw [hb] at hv;cases hv;exact hf
theorem add_add (a:Addr) (i j:Nat):(a.add i).add j=a.add (i+j):=by
 unfold Addr.add;by_cases h1:i=0<;>by_cases h2:j=0<;>simp [h1,h2,Nat.add_assoc]
theorem kr {α:Type} {f:Nat->Option α} {n:Nat} {l:List α} (h:(List.range n).mapM f=some l):l.length=n/\∀ i,i<n->∃ x,l[i]? =some x/\f i=some x:=
 ⟨by rw [Lib.mapM_length h];simp,fun i hi=>Lib.mapM_at h i i (by simp [hi])⟩
structure Vj (Q:DataW H->Prop) (R:Nat):Prop where
 str:∀ b:List UInt8,b.length<=reachBytes->Q (.lit (.string b))->b.length<=R
 agg:∀ ds,Q (.agg ds)->∀ d∈ds,Q d
 aJ:∀ es sp,es.length+sp.length<=reachBytes->Q (.slice es sp)->es.length+sp.length<=R
 Zo:∀ es sp,Q (.slice es sp)->(∀ d∈es,Q d)/\∀ d∈sp,Q d
theorem Vj.any:Vj (fun _:DataW H=>True) reachBytes:=⟨fun _ h _=>h,fun _ _ _ _=>trivial,fun _ _ h _=>h,fun _ _ _=>⟨fun _ _=>trivial,fun _ _=>trivial⟩⟩
variable {Q:DataW H->Prop} {R:Nat}
def Lt (P:Program) (Q:DataW H->Prop) (t:TypeId) (d:DataW H):Prop:=(∀ w∈d.weights P t,w<=reachBytes)/\Q d
theorem iR {e:TypeId} {d:DataW H}:∀ {l:List (DataW H)},d∈l->∀ w∈d.weights P e,w∈DataW.weightsAll P e l
 |x::r,h,w,hw=>by
  simp only [DataW.weightsAll,List.mem_append];rcases List.mem_cons.1 h with rfl |h
  ·exact .inl hw
  ·exact .inr (iR h w hw)
theorem lh:∀ {ts:List TypeId} {ds:List (DataW H)} {i:Nat} {t:TypeId} {d:DataW H},ts[i]? =some t->ds[i]? =some d->∀ w∈d.weights P t,w∈DataW.weightsEach P ts ds
 |t::ts,d::ds,0,_,_,ht,hd,w,hw=>by
  simp only [List.getElem?_cons_zero,Option.some.injEq] at ht hd;subst ht;subst hd;simp only [DataW.weightsEach,List.mem_append];exact .inl hw
 |t::ts,d::ds,i+1,_,_,ht,hd,w,hw=>by
  simp only [DataW.weightsEach,List.mem_append];exact .inr (lh (i:=i) (by simpa using ht) (by simpa using hd) w hw)
 | [],_,i,_,_,ht,_,w,hw=>by simp at ht
 |_::_,[],i,_,_,_,hd,w,hw=>by simp at hd
theorem V7 {W:World} {r:TypeId->Option Sh} {g:TypeId->List Value->Option (DataW H×List MemPlace)} {cs:List Value}
  (ih:∀ t s,r t=some s->∀ cs y,g t cs=some y->Lt P Q t y.1->∀ l φ m,ri W l φ m->bU+m+s.bd<=dO->Yd R W l φ m s s.bd cs):
  ∀ (fs:List Field) (off:Nat) (s:Sh),Tk P r off fs=some s->off+s.sz<=cs.length->(∀ f∈fs,∃ y,g f.type ((cs.drop f.offset).take (P.cellsOf f.type))=some y/\Lt P Q f.type y.1)->
   ∀ l φ m,ri W l φ m->bU+m+s.bd<=dO->Yd R W l φ m s s.bd ((cs.drop off).take s.sz):=by
 intro fs
 induction fs with
 |nil=>intro off s h;cases h
 |cons f fs ihf=>
  intro off s h hle hg l φ m hS hm;unfold Tk at h;split at h
  ·rename_i s0 hs0
   replace h:=ae h;obtain ⟨hb,h⟩:=h;simp only [zae] at hb;have ho:=beq_true hb.1;have hc:=beq_true hb.2;obtain ⟨y,hy,hyw⟩:=hg f (List.mem_cons_self ..);rw [ho,hc] at hy;split at h
   ·cases h
    exact ih _ _ hs0 _ y hy hyw l φ m hS hm
   ·split at h
    ·rename_i q hq
     cases h;simp only [Sh.sz] at hle;simp only [Sh.bd] at hm;obtain ⟨l1,φ1,m1,vs1,x1,a1,a2,a3,a4,a5,a6⟩:=(ih _ _ hs0 _ y hy hyw l φ m hS (by omega)).all;obtain ⟨l2,φ2,m2,vs2,x2,b1,b2,b3,b4,b5,b6⟩:=(ihf _ q hq (by omega) (fun f hf=>hg f (zak _ hf)) l1 φ1 m1 a1 (by omega)).all;refine ⟨l2,φ2,m2,vs1++vs2,(x1,x2),b1,a2.trans b2,by simp only [Sh.bd];omega,?_,?_,⟨a6,b6⟩⟩
     ·unfold cy;exact ⟨vs1,vs2,rfl,b2.enc a4,b4⟩
     ·have e:(cs.drop off).take (s0.sz+q.sz)=(cs.drop off).take s0.sz++(cs.drop (off+s0.sz)).take q.sz:=by
       rw [List.take_add,zah]
      simp only [Sh.sz];rw [e];exact (b2.Zn a5).append b5
    ·cases h
  ·cases h
theorem VF {W:World} {s:Sh} {e:TypeId} {g:List Value->Option (DataW H×List MemPlace)} {a:Addr}
  (ih:∀ cs y,g cs=some y->Lt P Q e y.1->∀ l φ m,ri W l φ m->bU+m+s.bd<=dO->Yd R W l φ m s s.bd cs) {len:Nat}
  (hg:∀ i,i<len->∃ cs y,W.cells? 0 (a.add (i*s.sz)) s.sz=some cs/\g cs=some y/\Lt P Q e y.1) {l:List GV} {φ:Nat->Nat×Nat} {m:Nat} (hS:ri W l φ m) (hm:bU+m+len*s.bd<=dO):
  ∀ k,k<=len->∃ (l':List GV) (φ':Nat->Nat×Nat) (m':Nat) (vals:List Value) (xs:List s.ty),ri W l' φ' m'/\kj l φ m l' φ' m'/\m'<=m+k*s.bd/\vals.length=k*s.sz/\List.length xs=k/\
   (∀ (i:Nat) (x:s.ty),xs[i]? =some x->cy (HD l') (bn l') s x ((vals.drop (i*s.sz)).take s.sz))/\
   (∀ (j:Nat) (v:Value),vals[j]? =some v->∃ v',W.cell? (a.add j)=some v'/\VR (bX φ' m') W v v')/\∀ x∈xs,s.Wn R x:=by
 intro k
 induction k with
 |zero=>
  intro _;refine ⟨l,φ,m,[],[],hS,.refl _ _ _,by omega,by simp,rfl,?_,?_,?_⟩
  ·intro i x h;simp at h
  ·intro j v h;simp at h
  ·intro x h;simp at h
 |succ k ihk=>
  intro hk;obtain ⟨l1,φ1,m1,vals,xs,a1,a2,a3,a4,a5,a6,a7,a8⟩:=ihk (by omega);obtain ⟨cs,y,h1,h2,h2w⟩:=hg k (by omega);have hkb:k*s.bd+s.bd<=len*s.bd:=by
   have:(k+1)*s.bd<=len*s.bd:=Nat.mul_le_mul_right _ hk;rw [zag,Nat.one_mul] at this;exact this
  obtain ⟨l2,φ2,m2,vs,x,b1,b2,b3,b4,b5,b6⟩:=(ih cs y h2 h2w l1 φ1 m1 a1 (by omega)).all;have hvl:=b4.len;obtain ⟨hcl,hcat⟩:=JS h1;refine ⟨l2,φ2,m2,vals++vs,xs++ [x],b1,a2.trans b2,by rw [zag,Nat.one_mul];omega,by rw [zaf,a4,hvl,zag,Nat.one_mul],by simp [a5],?_,?_,?_⟩
  ·intro i z hz
   rcases Nat.lt_or_ge i k with h |h
   ·rw [List.getElem?_append_left (by omega)] at hz
    have hi:=a6 i z hz;have hlt:i*s.sz+s.sz<=k*s.sz:=by
     have:(i+1)*s.sz<=k*s.sz:=Nat.mul_le_mul_right _ h;rw [zag,Nat.one_mul] at this;exact this
    have e:((vals++vs).drop (i*s.sz)).take s.sz=(vals.drop (i*s.sz)).take s.sz:=by
     rw [List.drop_append_of_le_length (by omega),List.take_append_of_le_length (by rw [List.length_drop];omega)]
    rw [e];exact b2.enc hi
   ·have hik:i=k:=by
     have:=(List.getElem?_eq_some_iff.1 hz).1;simp [a5] at this;omega
    subst hik;rw [List.getElem?_append_right (by omega),a5,Nat.sub_self] at hz;cases hz;have e:((vals++vs).drop (i*s.sz)).take s.sz=vs:=by
     rw [←a4,List.drop_left' rfl,List.take_of_length_le (by omega)]
    rw [e];exact b4
  ·intro j v hv
   rcases Nat.lt_or_ge j vals.length with h |h
   ·rw [List.getElem?_append_left h] at hv
    obtain ⟨v',c1,c2⟩:=a7 j v hv;exact ⟨v',c1,b2.vr c2⟩
   ·rw [List.getElem?_append_right h] at hv
    obtain ⟨v',c1,c2⟩:=b5.get hv;refine ⟨v',?_,c2⟩;have:=hcat _ _ c1;rw [add_add,show k*s.sz+(j - vals.length)=j by omega] at this;exact this
  ·intro z hz
   rcases List.mem_append.1 hz with h |h
   ·exact a8 z h
   ·rw [List.mem_singleton] at h;subst h;exact b6
section
variable {W:World} {sp:Nat->Bool} {r:TypeId->List Value->Option (DataW H×List MemPlace)} {t:TypeId} {cs:List Value} {y:DataW H×List MemPlace}
theorem Fk {k:IntKind} (hu:P.underlying t=some (.int k)) (h:DataW.trodStep enc P W 0 sp true r t cs=some y):∃ z,cs= [.int k z]/\(Lit.int k z).wf=true:=by
 unfold DataW.trodStep at h;rw [hu] at h;rcases cs with _ |⟨v,_ |⟨v2,rest⟩⟩
 ·cases h
 ·cases v with
  |int k' n=>
   simp only at h;split at h
   ·rename_i hc;obtain ⟨rfl,hw⟩:=hc;exact ⟨n,rfl,hw⟩
   ·cases h
  |_=>(try cases h)<;>(rename_i q;cases q<;>cases h)
 ·cases v<;>(try cases h)<;>(rename_i q _;cases q<;>cases h)
theorem NJ (hu:P.underlying t=some .bool) (h:DataW.trodStep enc P W 0 sp true r t cs=some y):∃ b,cs= [.bool b]:=by
 unfold DataW.trodStep at h;rw [hu] at h;rcases cs with _ |⟨v,_ |⟨v2,rest⟩⟩
 ·cases h
 ·cases v with
  |bool b=>exact ⟨b,rfl⟩
  |_=>(try cases h)<;>(rename_i q;cases q<;>cases h)
 ·cases v<;>(try cases h)<;>(rename_i q _;cases q<;>cases h)
theorem SE (hu:P.underlying t=some .string) (h:DataW.trodStep enc P W 0 sp true r t cs=some y):∃ s,cs= [.string s]/\y.1= .lit (.string s.data.toList):=by
 unfold DataW.trodStep at h;rw [hu] at h;rcases cs with _ |⟨v,_ |⟨v2,rest⟩⟩
 ·cases h
 ·cases v with
  |string s=>
   simp only at h;split at h
   ·rename_i hc;cases h;exact ⟨s,rfl,rfl⟩
   ·cases h
  |_=>(try cases h)<;>(rename_i q;cases q<;>cases h)
 ·cases v<;>(try cases h)<;>(rename_i q _;cases q<;>cases h)
theorem F5 (hB:Vj Q R) {fs:Array Field} (hu:P.underlying t=some (.struct fs)) (h:DataW.trodStep enc P W 0 sp true r t cs=some y):
  cs.length=P.cellsOf t/\∀ f∈fs.toList,∃ z,r f.type ((cs.drop f.offset).take (P.cellsOf f.type))=some z/\(Lt P Q t y.1->Lt P Q f.type z.1):=by
 unfold DataW.trodStep at h;rw [hu] at h;have h':(if cs.length=P.cellsOf t then (fs.toList.mapM fun f=>r f.type ((cs.drop f.offset).take (P.cellsOf f.type))).map fun xs=>((.agg (xs.map (·.1)):DataW H),xs.flatMap (·.2)) else none)=some y:=by
  rcases cs with _ |⟨v,_ |⟨v2,rest⟩⟩
  ·exact h
  ·cases v<;>first |exact h |(rename_i q;cases q<;>exact h) |(rename_i q _ _;cases q<;>exact h)
  ·cases v<;>first |exact h |(rename_i q;cases q<;>exact h) |(rename_i q _ _;cases q<;>exact h)
 split at h'
 ·rename_i hl
  refine ⟨hl,fun f hf=>?_⟩;rw [Option.map_eq_some_iff] at h';obtain ⟨xs,hx,rfl⟩:=h';obtain ⟨i,hi⟩:=List.getElem?_of_mem hf;obtain ⟨b,hbi,hb⟩:=Lib.mapM_at hx i f hi;refine ⟨b,hb,fun hw=>⟨fun w hm=>hw.1 w ?_,hB.agg _ hw.2 _ (List.mem_map_of_mem (List.mem_of_getElem? hbi))⟩⟩;simp only [DataW.weights,hu];exact lh (i:=i) (by rw [List.getElem?_map,hi];rfl) (by rw [List.getElem?_map,hbi];rfl) w hm
 ·cases h'
theorem HO (hB:Vj Q R) {e:TypeId} (hu:P.underlying t=some (.slice e)) (h:DataW.trodStep enc P W 0 (fun _=>true) true r t cs=some y):
  cs= [.slice none 0 0]∨∃ a len cap,cs= [.slice (some a) len cap]/\len<=cap/\(Lt P Q t y.1->cap*P.bytesOf e<=reachBytes/\(cap<=reachBytes->cap<=R))/\∀ i,i<cap->∃ c z,W.cells? 0 (a.add (i*P.cellsOf e)) (P.cellsOf e)=some c/\r e c=some z/\(Lt P Q t y.1->Lt P Q e z.1):=by
 unfold DataW.trodStep at h;rw [hu] at h;rcases cs with _ |⟨v,_ |⟨v2,rest⟩⟩
 ·cases h
 ·cases v with
  |slice a len cap=>
   cases a with
   |none=>
    cases len with
    |zero=>cases cap with
     |zero=>exact .inl rfl
     |succ c=>cases h
    |succ n=>cases h
   |some a=>
    simp only at h;split at h
    ·rename_i hc
     obtain ⟨_,h1,h2⟩:=hc;rw [Option.bind_eq_some_iff] at h;obtain ⟨es,he,h⟩:=h;rw [Option.map_eq_some_iff] at h;obtain ⟨rs,hr,rfl⟩:=h;simp only [if_true] at hr;have l1:=(kr he).1;have l2:=(kr hr).1;refine .inr ⟨a,len,cap,rfl,h1,fun hw=>?_,fun i hi=>?_⟩
     ·refine ⟨hw.1 _ ?_,fun hcr=>?_⟩
      ·simp only [DataW.weights,hu,List.length_map,l1,l2]
       rw [show len+(cap - len)=cap by omega];exact List.mem_cons_self ..
      ·have:=hB.aJ _ _ (by simp only [List.length_map,l1,l2];omega) hw.2
       simp only [List.length_map,l1,l2] at this;omega
     have key:∃ x,(W.cells? 0 (a.add (i*P.cellsOf e)) (P.cellsOf e)).bind (r e)=some x/\(x∈es∨x∈rs):=by
      rcases Nat.lt_or_ge i len with h3 |h3
      ·obtain ⟨x,hm,hx⟩:=(kr he).2 i h3
       exact ⟨x,hx,.inl (List.mem_of_getElem? hm)⟩
      ·obtain ⟨x,hm,hx⟩:=(kr hr).2 (i - len) (by omega)
       rw [show len+(i - len)=i by omega] at hx;exact ⟨x,hx,.inr (List.mem_of_getElem? hm)⟩
     obtain ⟨x,hx,hmem⟩:=key;rw [Option.bind_eq_some_iff] at hx;obtain ⟨c,h4,h5⟩:=hx;refine ⟨c,x,h4,h5,fun hw=>⟨fun w hm=>hw.1 w ?_,hmem.elim (fun h=>(hB.Zo _ _ hw.2).1 _ (List.mem_map_of_mem h)) fun h=>(hB.Zo _ _ hw.2).2 _ (List.mem_map_of_mem h)⟩⟩;simp only [DataW.weights,hu,List.mem_cons,List.mem_append]
     right
     rcases hmem with hmem |hmem
     ·exact .inl (iR (List.mem_map_of_mem hmem) w hm)
     ·exact .inr (iR (List.mem_map_of_mem hmem) w hm)
    ·cases h
  |_=>(try cases h)<;>(rename_i q;cases q<;>cases h)
 ·cases v with
  |slice a n c=>
   cases a with
   |none=>cases n with
    |zero=>cases c<;>cases h
    |succ _=>cases h
   |some _=>cases h
  |_=>(try cases h)<;>(rename_i q;cases q<;>cases h)
end
theorem imp (hB:Vj Q R):∀ (n:Nat) (t:TypeId) (s:Sh),Nq P n t=some s->∀ {W:World} (fuel:Nat) (cs:List Value) (y:DataW H×List MemPlace),DataW.trod enc P W 0 (fun _=>true) true fuel t cs=some y->Lt P Q t y.1->
  ∀ l φ m,ri W l φ m->bU+m+s.bd<=dO->Yd R W l φ m s s.bd cs:=by
 intro n
 induction n with
 |zero=>intro t s h;cases h
 |succ n ih=>
  intro t s hs W fuel cs y h hlt l φ m hS hm;cases fuel with
  |zero=>cases h
  |succ fuel=>
   rw [DataW.trod_step] at h;unfold Nq at hs;split at hs
   ·rename_i hu
    cases hs;obtain ⟨z,rfl,hw⟩:=Fk hu h;have hb:=bounds_u8 hw;refine ⟨l,φ,m,[.int .u8 z],UInt8.ofNat z.toNat,hS,.refl _ _ _,by simp [Sh.bd],?_,.cons (.int _ _) .nil,trivial⟩;unfold cy;rw [UInt8.toNat_ofNat'];have e:((z.toNat%2^8:Nat):Int)=z:=by omega
    rw [e]
   ·rename_i k _ hu
    cases hs;obtain ⟨z,rfl,hw⟩:=Fk hu h;exact ⟨l,φ,m,[.int k z],z,hS,.refl _ _ _,by simp [Sh.bd],by unfold cy;rfl,.cons (.int _ _) .nil,hw⟩
   ·rename_i hu
    cases hs;obtain ⟨b,rfl⟩:=NJ hu h;exact ⟨l,φ,m,[.bool b],b,hS,.refl _ _ _,by simp [Sh.bd],by unfold cy;rfl,.cons (.bool _) .nil,trivial⟩
   ·rename_i hu
    cases hs;obtain ⟨b,rfl,hb⟩:=SE hu h;exact ⟨l,φ,m,[.string b],b.data.toList,hS,.refl _ _ _,by simp [Sh.bd],by unfold cy;rfl,.cons (.string _) .nil,by obtain ⟨q1,q2⟩:=hlt;rw [hb] at q1 q2;exact hB.str _ (q1 _ (List.mem_cons_self ..)) q2⟩
   ·rename_i e hu
    split at hs
    ·rename_i s0 hs0
     replace hs:=ae hs;obtain ⟨hb,hs⟩:=hs;cases hs;simp only [zae] at hb;have hc:=beq_true hb.1.1;have hpos:1<=s0.sz:=Nat.le_of_ble_eq_true hb.1.2;have hby:1<=P.bytesOf e:=Nat.le_of_ble_eq_true hb.2;simp only [Sh.bd] at hm;rcases HO hB hu h with rfl |⟨a,len,cap,rfl,h1,h2,h3⟩
     ·exact ⟨l,φ,m,[.slice none 0 0],[],hS,.refl _ _ _,by omega,by unfold cy;exact .inl ⟨rfl,rfl⟩,.cons .Dl .nil,⟨Nat.zero_le _,fun x h=>by cases h⟩⟩
     ·rw [hc] at h3
      obtain ⟨h2,h2R⟩:=h2 hlt;replace h2:cap<=reachBytes:=Nat.le_trans (by have:=Nat.mul_le_mul_left cap hby;rw [Nat.mul_one] at this;exact this) h2;replace h2R:=h2R h2;have hlb:len*s0.bd<=reachBytes*s0.bd:=Nat.mul_le_mul_right _ (Nat.le_trans h1 h2);obtain ⟨l1,φ1,m1,vals,xs,a1,a2,a3,a4,a5,a6,a7,a8⟩:=VF (s:=s0) (e:=e) (g:=DataW.trod enc P W 0 (fun _=>true) true fuel e) (a:=a) (len:=len) (fun cs y hy hw l φ m hS hm=>ih e s0 hs0 fuel cs y hy hw l φ m hS hm) (fun i hi=>by obtain ⟨c,z,q1,q2,q3⟩:=h3 i (by omega);exact ⟨c,z,q1,q2,q3 hlt⟩) hS (by omega) len (zai _);rcases Nat.eq_zero_or_pos cap with h0 |h0
      ·subst h0
       have hl0:len=0:=by omega
       subst hl0;have hx:xs= []:=List.eq_nil_of_length_eq_zero a5;subst hx;obtain ⟨r1,r2⟩:=a1.room (by omega) (a.block,0);refine ⟨l1,UN φ1 m1 (a.block,0),m1+1,[.slice (some ⟨bU+m1,0,none⟩) 0 0],[],r1,a2.trans r2,by simp only [Sh.bd];omega,?_,.cons (.slice ?_ (by unfold eE;exact Nat.two_pow_pos 64) (zai _) (.inl ⟨rfl,by rw [qH]⟩)) .nil,⟨Nat.zero_le _,fun x h=>by cases h⟩⟩
       ·unfold cy;exact .inr (.inr ⟨rfl,_,rfl⟩)
       ·show bU+m1<bU+(m1+1);omega
      ·-- a block
       obtain ⟨c,_,hcl,_⟩:=h3 (cap - 1) (by omega);obtain ⟨hcn,hca⟩:=JS hcl;have hlast:∃ v,c[s0.sz - 1]? =some v:=⟨_,zaj (by omega)⟩;obtain ⟨v,hv⟩:=hlast;have hcell:=hca _ _ hv;rw [add_add] at hcell;obtain ⟨c0,_,hcl0,_⟩:=h3 0 h0;obtain ⟨hcn0,hca0⟩:=JS hcl0;have hfirst:∃ v,c0[0]? =some v:=⟨_,zaj (by omega)⟩;obtain ⟨v0,hv0⟩:=hfirst;have hcell0:=hca0 _ _ hv0;rw [add_add,Nat.zero_mul,Nat.zero_add] at hcell0;have hs0':a.spot=none:=by
        have:=World.cell?_spot hcell0;simpa [Addr.add] using this
       obtain ⟨cs',et,f,hblk,hat⟩:=C9 hs0' hcell;have hroom:a.off+cap*s0.sz<=cs'.size:=by
        have:=(Array.getElem?_eq_some_iff.1 hat).1;have e:(cap - 1)*s0.sz+(s0.sz - 1)+1=cap*s0.sz:=by
         have:cap*s0.sz=(cap - 1)*s0.sz+s0.sz:=by
          obtain ⟨q,rfl⟩:∃ q,cap=q+1:=⟨cap - 1,by omega⟩;rw [zag,Nat.one_mul];rfl
         omega
        omega
       have hle:len*s0.sz<=cap*s0.sz:=Nat.mul_le_mul_right _ h1;obtain ⟨r1,r2,r3,r4⟩:=a1.add (by omega) (a.block,a.off) et vals ⟨cs',f,hblk,by simp only [a4];omega,fun i v hv=>by
        obtain ⟨v',h4,h5⟩:=a7 i v hv;obtain ⟨cs2,e2,f2,hb2,h6⟩:=C9 hs0' h4;cases hblk.symm.trans hb2;exact ⟨v',h6,h5⟩⟩
       refine ⟨_,_,m1+1,[.slice (some ⟨bU+m1,0,none⟩) len (eE+s0.sz)],xs,r1,a2.trans r2,by simp only [Sh.bd];omega,?_,.cons (.dV ?_ h1 (.inr ⟨?_,cs',et,f,hblk,hroom⟩)) .nil,⟨by omega,a8⟩⟩
       ·unfold cy
        refine .inr (.inl ⟨bU+m1,0,eE+s0.sz,vals,et,0,false,false,by rw [a5],⟨_,r4⟩,r4,.inl rfl,by rw [a5,a4];omega,fun i x hx=>?_⟩);rw [Nat.zero_add];exact r2.enc (a6 i x hx)
       ·show bU+m1<bU+(m1+1);omega
       ·obtain ⟨b,o,q⟩:=a
        simp only at hs0';subst hs0';simp only [Ga.at,r3,Nat.add_zero]
    ·cases hs
   ·rename_i fs hu
    split at hs
    ·rename_i s0 hs0
     replace hs:=ae hs;obtain ⟨hb,hs⟩:=hs;cases hs;have hc:=beq_true hb;obtain ⟨h1,h2⟩:=F5 hB hu h;have:=V7 (W:=W) (r:=Nq P n) (g:=DataW.trod enc P W 0 (fun _=>true) true fuel) (cs:=cs) (fun t s hts cs y hy hw l φ m hS hm=>ih t s hts fuel cs y hy hw l φ m hS hm) fs.toList 0 s hs0 (by omega) (fun f hf=>by obtain ⟨z,q1,q2⟩:=h2 f hf;exact ⟨z,q1,q2 hlt⟩) l φ m hS hm;rw [List.drop_zero,List.take_of_length_le (by omega)] at this;exact this
    ·cases hs
   ·cases hs
def X9 (R:Nat):(pa:List (Bool×Sh))->ak pa->Prop
 | [],_=>True
 |(_,s)::r,x=>s.Wn R x.1/\X9 R r x.2
abbrev ZB (pa:List (Bool×Sh)) (x:ak pa):Prop:=X9 reachBytes pa x
def WS:List (Bool×Sh)->Nat
 | []=>0
 |(_,s)::r=>s.bd+WS r
def TC (P:Program) (t:TypeId):Bool:=
 match P.underlying t with
 |some (.struct _) |some (.array _ _)=>true
 |_=>false
inductive BF (P:Program):List TypeId->List (Bool×Sh)->Prop
 |nil:BF P [] []
 |cons {t:TypeId} {ts:List TypeId} {s:Sh} {pa:List (Bool×Sh)} {g:Bool} (n:Nat) (hg:TC P t=g) (h:Nq P n t=some s) (r:BF P ts pa):BF P (t::ts) ((g,s)::pa)
theorem Jt {W:World} {r:Reach} {b:Nat} {t:TypeId} {cs:Array Value}:¬ Cell.okWide P W r b t (.agg cs):=by
 intro h;unfold Cell.okWide at h;split at h<;>try (rename_i e;cases e;done)
 all_goals first
  |(rename_i e _;cases e;done)
  |(unfold Cell.ok at h;split at h<;>first |(rename_i e;cases e;done) |(rename_i e _;cases e;done) |exact h)
theorem HU {W:World} {r:Reach} {b:Nat} {t:TypeId} {v:Value} (h:Value.okWide P W r b t v):(TC P t=true->∃ cs,v= .agg cs)/\(TC P t=false->v.cells.toList= [v]):=by
 unfold Value.okWide at h;unfold TC;split at h
 ·rename_i e
  obtain ⟨cs,rfl,_⟩:=h;rw [e];exact ⟨fun _=>⟨cs,rfl⟩,(fun x=>by cases x)⟩
 ·rename_i e
  obtain ⟨cs,rfl,_⟩:=h;rw [e];exact ⟨fun _=>⟨cs,rfl⟩,(fun x=>by cases x)⟩
 ·rename_i n1 n2
  have hx:(match P.underlying t with |some (.struct _) |some (.array _ _)=>true |_=>false)=false:=by
   split
   ·rename_i e;exact absurd e (n1 _)
   ·rename_i e;exact absurd e (n2 _ _)
   ·rfl
  rw [hx];refine ⟨(fun x=>by cases x),fun _=>?_⟩;cases v with
  |agg cs=>exact absurd h Jt
  |_=>rfl
theorem Ax {W:World} {b:Nat} {t:TypeId} {v:Value} (h:Cell.okWide P W .any b t v):Cell.okWide P W .any 0 t v:=by
 unfold Cell.okWide at h ⊢;split at h<;>trivial
theorem Hv {W:World} {b:Nat} {t:TypeId} {v:Value} (h:Value.okWide P W .any b t v):Value.okWide P W .any 0 t v:=by
 have rowb:∀ t cs,Row.okWide P W .any b t cs->Row.okWide P W .any 0 t cs:=fun t cs h=>by
  obtain ⟨ts,h1,h2,h3⟩:=h;exact ⟨ts,h1,h2,fun i v hv=>by obtain ⟨u,h4,h5⟩:=h3 i v hv;exact ⟨u,h4,Ax h5⟩⟩
 unfold Value.okWide at h ⊢;split at h
 ·obtain ⟨cs,h1,h2,h3⟩:=h;exact ⟨cs,h1,h2,rowb _ _ h3⟩
 ·obtain ⟨cs,h1,h2,h3⟩:=h;exact ⟨cs,h1,h2,rowb _ _ h3⟩
 ·exact Ax h
theorem T7 (hB:Vj Q R) {W:World} {ts:List TypeId} {pa:List (Bool×Sh)} (hsh:BF P ts pa):∀ {vs:List Value} {ds:List (DataW H)} {ps:List MemPlace},DataW.TrodAll enc P W 0 (fun _=>true) true ts vs ds ps->
  (∀ (j:Nat) t v,ts[j]? =some t->vs[j]? =some v->Value.okWide P W .any 0 t v)->(∀ w∈DataW.weightsEach P ts ds,w<=reachBytes)->(∀ d∈ds,Q d)->∀ l φ m,ri W l φ m->bU+m+WS pa<=dO->
  ∃ l' φ' m' us x,ri W l' φ' m'/\kj l φ m l' φ' m'/\ua (HD l') (bn l') pa x us/\cB (bX φ' m') W us vs/\X9 R pa x:=by
 induction hsh with
 |nil=>
  intro vs ds ps h _ _ _ l φ m hS _;obtain ⟨rfl,rfl,rfl⟩:=trodAll_nil h;exact ⟨l,φ,m,[],(),hS,.refl _ _ _,rfl,.nil,trivial⟩
 |@cons t ts s pa g n hgt hs hr ih=>
  intro vs ds ps h hval hwt hQ l φ m hS hm;obtain ⟨v,vs',d,ds',p,q,rfl,rfl,rfl,hd,hrest⟩:=trodAll_cons h;simp only [WS] at hm;obtain ⟨fuel,hd⟩:=hd;obtain ⟨l1,φ1,m1,cs,x,a1,a2,a3,a4,a5,a6⟩:=(imp hB n t s hs fuel _ _ hd ⟨fun w hw=>hwt w (by simp only [DataW.weightsEach,List.mem_append];exact .inl hw),hQ _ (List.mem_cons_self ..)⟩ l φ m hS (by omega)).all;obtain ⟨l2,φ2,m2,us,y,b1,b2,b3,b4,b5⟩:=ih hrest (fun j t v hj hv=>hval (j+1) t v (by simpa using hj) (by simpa using hv)) (fun w hw=>hwt w (by simp only [DataW.weightsEach,List.mem_append];exact .inr hw)) (fun d hd=>hQ d (zak _ hd)) l1 φ1 m1 a1 (by omega);have hag:=HU (hval 0 t v rfl rfl);rw [hgt] at hag;cases g with
  |true=>
   obtain ⟨ca,rfl⟩:=hag.1 rfl;refine ⟨l2,φ2,m2,.agg ⟨cs⟩::us,(x,y),b1,a2.trans b2,⟨_,_,rfl,⟨b2.enc a4,(fun _=>⟨_,rfl⟩),(fun h=>by cases h)⟩,b3⟩,.cons (.agg (b2.Zn a5)) b4,⟨a6,b5⟩⟩
  |false=>
   have hc:=hag.2 rfl;rw [hc] at a5;cases a5 with
   |cons h1 h2=>
    cases h2;rename_i u;have hu:u.cells.toList= [u]:=by
     cases u with
     |agg c=>
      cases h1 with
      |agg _=>
       exfalso
       have:∀ c:Array Value,(Value.agg c).cells.toList≠ [Value.agg c]:=fun c h=>by
        have h':c.toList= [Value.agg c]:=h;have:=congrArg (fun l:List Value=>SizeOf.sizeOf l) h';obtain ⟨c⟩:=c;simp at this;omega
       exact this _ hc
     |_=>rfl
    refine ⟨l2,φ2,m2,u::us,(x,y),b1,a2.trans b2,⟨_,_,rfl,⟨by rw [hu];exact b2.enc a4,(fun h=>by cases h),fun _=>hu⟩,b3⟩,.cons (b2.vr h1) b4,⟨a6,b5⟩⟩
theorem Ny (hB:Vj Q R) {hint:Hint} {sh:cA} (hsp:jB P (cP hint)) (hng:jE P=true) (hm:P.follows .mixedOrders=true) {it:bu} {n:Nat} (hal:nA (hint jr) it.f=none) (hok:aI P hint sh it n) {y:ak it.re}
  (hF:∀ x,X9 R it.pa x->it.F n x=some y) (hy:∀ {Γ:bc} {Pu:Nat->Prop} {I:IH} {v:Value},GR Γ Pu I (jS (fH it.re y)) v->v= .bool true)
  {ts:List TypeId} (hsh:BF P ts it.pa) {W:World} {l:List GV} {φ:Nat->Nat×Nat} {m:Nat} (hS:ri W l φ m) (ht:lG sh (HD l) (bn l)) (hbd:bU+m+WS it.pa<=dO)
  {args:Array Value} {ds:List (DataW H)} {ps:List MemPlace} (hA:DataW.TrodAll enc P W 0 (fun _=>true) true ts args.toList ds ps) (hval:∀ (j:Nat) t v,ts[j]? =some t->args.toList[j]? =some v->Value.okWide P W .any 0 t v) (hwt:∀ w∈DataW.weightsEach P ts ds,w<=reachBytes) (hQ:∀ d∈ds,Q d):
  Calls P it.f args W fun e w'=>e= .returned (.bool true)/\Below W.heap.size W w':=by
 obtain ⟨l',φ',m',us,x,a1,a2,a3,a4,a5⟩:=T7 hB hsh hA hval hwt hQ l φ m hS hbd;exact Uf hsp hng hm hal hok (hF x a5) hy a1 (a2.Yy ht) a3 a4
theorem PI {hint:Hint} {sh:cA} (hsp:jB P (cP hint)) (hng:jE P=true) (hm:P.follows .mixedOrders=true) {it:bu} {n:Nat} (hal:nA (hint jr) it.f=none) (hok:aI P hint sh it n) {y:ak it.re}
  (hF:∀ x,ZB it.pa x->it.F n x=some y) (hy:∀ {Γ:bc} {Pu:Nat->Prop} {I:IH} {v:Value},GR Γ Pu I (jS (fH it.re y)) v->v= .bool true)
  {ts:List TypeId} (hsh:BF P ts it.pa) {W:World} {l:List GV} {φ:Nat->Nat×Nat} {m:Nat} (hS:ri W l φ m) (ht:lG sh (HD l) (bn l)) (hbd:bU+m+WS it.pa<=dO)
  {args:Array Value} {ds:List (DataW H)} {ps:List MemPlace} (hA:DataW.TrodAll enc P W 0 (fun _=>true) true ts args.toList ds ps) (hval:∀ (j:Nat) t v,ts[j]? =some t->args.toList[j]? =some v->Value.okWide P W .any 0 t v) (hwt:∀ w∈DataW.weightsEach P ts ds,w<=reachBytes):
  Calls P it.f args W fun e w'=>e= .returned (.bool true)/\Below W.heap.size W w':=
 Ny Vj.any hsp hng hm hal hok hF hy hsh hS ht hbd hA hval hwt fun _ _=>trivial
theorem RR (hl:laidOutB P=true) {t:TypeId} (hr:P.readableRec t=true) (hrow:t<P.types.size) {W W':World} {v:Value} {d:DataW H} {ps:List MemPlace}
  (h:DataW.Trod enc P W 0 (fun _=>true) true t v d ps) (hb:Below W.heap.size W W') (hlt:∀ x∈ps,x.block<W.heap.size) (sp:Nat->Bool) (hsp:∀ p∈ps,sp p.block=true):DataW.Trod enc P W' 0 sp true t v d ps:=
 WideElems.Trod_stays hl hr hrow h (fun x hx=>hb.same (hlt x hx)) hsp
end Go.Gv
/- Functions of Go's library whose answers are told: what the kit's contracts say of them, for the evaluator. -/
namespace Go.Gv
open Go Go.Iv Go.RowKit
variable {P:Program}
theorem Nh {f g:Nat} {nm:String} (hb:∃ fn c,P.funcs[f]? =some fn/\fn.body=some c) (hn:P.globalNamed nm=some g)
  (hc:∀ (n:Int) (w:World), -9223372036854775808<=n->n<=9223372036854775807->Lib.TabIs P w nm .u64 Lib.pow10Tab->
   Calls P f #[.int .i64 n] w fun e w'=>e= .returned (.string ⟨(Lib.itoa n).toArray⟩)/\∃ k os,w'=Go.Sort.grow (w.drewN k) os):tX P 1 f g:=by
 refine ⟨hb,fun {args I v} hv {Γ w args'} hR ha=>?_⟩;unfold jG at hv;split at hv
 ·exact absurd ‹(1:Nat)=0› (by decide)
 ·rename_i n _
  split at hv
  ·rename_i hh
   cases hv;obtain ⟨hin,hg,cs,et,fz,ex,sd,hI,hex,hlen,hat⟩:=hh;have ha':args'=#[.int .i64 n]:=by
    obtain ⟨l⟩:=args';cases ha with |cons a b=>cases a;cases b;rfl
   subst ha';obtain ⟨cs',lo,hi,hC⟩:=hR.obj g _ hI;have hφ:=(hR.cE g hg).2;have hsz:=hC.lL hex;have htab:Lib.TabIs P w nm .u64 Lib.pow10Tab:=by
    unfold Lib.TabIs World.var?;rw [hn];simp only [zaa];have hbk:=hC.block;rw [hφ] at hbk;simp only at hbk;rw [hbk];simp only [Option.some.injEq];have hp:Lib.pow10Tab=mh:=by decide
    rw [hp];apply Array.ext';apply List.ext_getElem?;intro i;rcases Nat.lt_or_ge i (mh.length) with hi |hi
    ·have hv:(mh.map fun z=>Value.int .u64 z)[i]? =some (.int .u64 mh[i]):=by rw [List.getElem?_map,zaj hi];rfl
     obtain ⟨v',h1,h2⟩:=hC.cell i _ (hat i _ hv);rw [hφ] at h1;simp only [Nat.zero_add] at h1;cases h2;rw [hv,←h1];simp
    ·have h1:cs'.size<=i:=by rw [hsz.2,hlen];simpa using hi
     rw [List.getElem?_eq_none (by simpa using h1),List.getElem?_eq_none (by simpa using hi)]
   simp only [Co,zae] at hin;have h1: -9223372036854775808<=n:=bh hin.1;have h2:n<=9223372036854775807:=bh hin.2;refine vn hR (v':= .string ⟨(Lib.itoa n).toArray⟩) (fun w'=> .string _) ((hc n w h1 h2 htab).mono ?_);rintro e w' ⟨rfl,k,os,rfl⟩;exact ⟨rfl,Go.Lib.below_grow _ w (zai _) k os⟩
  ·cases hv
 ·exact absurd ‹(1:Nat)=2› (by decide)
 ·exact absurd ‹(1:Nat)=3› (by decide)
 ·cases hv
theorem QK:∀ c:Fin 256,(sr[c.val]?).map (·.toNat)=some (Lib.firstT c.val):=by decide+kernel
theorem Wc:∀ i:Fin 16,(MA[i.val]?).map (fun p=>(p.1.toNat,p.2.toNat))=some (Lib.accLo i.val,Lib.accHi i.val):=by decide+kernel
theorem wW {g:Nat} {I:IH} {Γ:Ga} {w:World} {zs:List Value} (hR:Rh Γ I w) (hg:g<bU) (ht:CR I g zs) {i:Nat} {k:IntKind} {n:Int} (hz:zs[i]? =some (.int k n)):w.cell? ⟨g,i,none⟩=some (.int k n):=by
 obtain ⟨cs,et,fz,ex,sd,hI,hex,hlen,hat⟩:=ht;obtain ⟨cs',lo,hi,hC⟩:=hR.obj g _ hI;have hφ:=(hR.cE g hg).2;obtain ⟨v',h1,h2⟩:=hC.cell i _ (hat i _ hz);have hb:=hC.block;rw [hφ] at h1 hb;simp only [Nat.zero_add] at h1 hb;cases h2;unfold World.cell?;simp only [hb];simpa using h1
theorem HH {f g1 g2:Nat} (h2:g2<1000) (hb:∃ fn c,P.funcs[f]? =some fn/\fn.body=some c)
  (hc:∀ (s:ByteArray) (w:World),s.size<=9223372036854775807->Lib.Utf8Tabs g1 g2 w->Calls P f #[.string s] w fun e w'=>e= .returned (.bool (Lib.validD s.data.toList))/\Below w.heap.size w w'):tX P 3 f (g1*1000+g2):=by
 refine ⟨hb,fun {args I v} hv {Γ w args'} hR ha=>?_⟩;have e1:(g1*1000+g2) / 1000=g1:=by omega
 have e2:(g1*1000+g2)%1000=g2:=by omega
 unfold jG at hv;split at hv
 ·exact absurd ‹(3:Nat)=0› (by decide)
 ·exact absurd ‹(3:Nat)=1› (by decide)
 ·exact absurd ‹(3:Nat)=2› (by decide)
 ·rename_i s _
  split at hv
  ·rename_i hh
   cases hv;rw [e1,e2] at hh;obtain ⟨hlen,⟨hg1,hg2⟩,t1,t2⟩:=hh;have ha':args'=#[.string s]:=by
    obtain ⟨l⟩:=args';cases ha with |cons a b=>cases a;cases b;rfl
   subst ha';have htab:Lib.Utf8Tabs g1 g2 w:=by
    refine ⟨fun c hc=>?_,fun i hi=>?_⟩
    ·have h3:=QK ⟨c,hc⟩
     rw [Option.map_eq_some_iff] at h3;obtain ⟨z,hz,hn⟩:=h3;have:(sr.map s9)[c]? =some (.int .u8 (Lib.firstT c)):=by
      rw [List.getElem?_map,hz,←hn];rfl
     exact wW hR hg1 t1 this
    ·have h3:=Wc ⟨i,hi⟩
     rw [Option.map_eq_some_iff] at h3;obtain ⟨p,hp,hn⟩:=h3;simp only [Prod.mk.injEq] at hn;have hf:∀ (l:List (UInt8×UInt8)) (i:Nat) (p:UInt8×UInt8),l[i]? =some p->(l.flatMap fun p=> [s9 p.1,s9 p.2])[2*i]? =some (s9 p.1)/\(l.flatMap fun p=> [s9 p.1,s9 p.2])[2*i+1]? =some (s9 p.2):=by
      intro l
      induction l with
      |nil=>intro i p h;simp at h
      |cons a r ih=>
       intro i p h;cases i with
       |zero=>simp at h;subst h;exact ⟨by simp,by simp⟩
       |succ i=>
        obtain ⟨q1,q2⟩:=ih i p (by simpa using h);rw [show 2*(i+1)=2*i+2 by omega,show 2*i+2+1=2*i+1+2 by omega];exact ⟨by simpa using q1,by simpa using q2⟩
     obtain ⟨q1,q2⟩:=hf MA i p hp;unfold s9 at q1 q2;rw [hn.1] at q1;rw [hn.2] at q2;exact ⟨wW hR hg2 t2 q1,wW hR hg2 t2 q2⟩
   have hsz:s.size<=9223372036854775807:=by
    have:=Nat.le_of_ble_eq_true hlen;unfold bl at this;simpa using this
   exact vn hR (v':= .bool (Lib.validD s.data.toList)) (fun w'=> .bool _) (hc s w hsz htab)
  ·cases hv
 ·cases hv
end Go.Gv
