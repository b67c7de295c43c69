/- Functions that call themselves: the calls within are an oracle's; then by depth. -/
import Derived.Test.YteknbnkjelmfaaaGreatDoorGvRow
import Derived.Lib.LaidTab
import Derived.Shelf.Strconv.Itoa3
import Derived.Lib.AppendIntMem
import Derived.Shelf.Strings.SlTrimAscii
import Derived.Shelf.Unicode.ValidAny
set_option linter.unusedSimpArgs false
set_option linter.unusedVariables false
namespace Go.Gv
open Go Go.Iv
variable {P:Program} {hint:Hint} {sh:bU}
theorem ig.zero {f:FuncId} {pa re:List (Bool×Sh)} {F:Nat->aw pa->Option (aw re)} (h:∀ n x,F n x=none) (n:Nat):ig P hint sh ⟨f,pa,re,0,F⟩ n where
 run:=fun {x y Γ Pu I vs} hF _ _=>by
  grind
theorem ig.GF {f:FuncId} {pa re:List (Bool×Sh)} {D:Nat} (b:(Nat->aw pa->Option (aw re))->Nat->aw pa->Option (aw re)) (Fd:Nat->Nat->aw pa->Option (aw re))
  (h0:∀ n x,Fd 0 n x=none) (hs:∀ d n x,Fd (d+1) n x=bif Nat.ble D n then b (Fd d) (n - D) x else none)
  (hb:∀ Fr,(∀ m,ig P hint sh ⟨f,pa,re,0,Fr⟩ m)->∀ n,ig P hint sh ⟨f,pa,re,D,b Fr⟩ n):∀ d n,ig P hint sh ⟨f,pa,re,0,Fd d⟩ n:=by
 intro d
 induction d with
 |zero=>exact fun n=>ig.zero h0 n
 |succ d ih=>
  intro n;refine ⟨fun {x y Γ Pu I vs} hF hS hD=>?_⟩;have h2:Fd (d+1) n x=some y:=hF;rw [hs] at h2;cases hle:Nat.ble D n with
  |false=>grind
  |true=>
   rw [hle,zac] at h2;have hD2:n - D+D=n:=Nat.sub_add_cancel (Nat.le_of_ble_eq_true hle);have:=(hb (Fd d) ih (n - D)).run (x:=x) (y:=y) (Γ:=Γ) h2 hS hD
   simp_all
theorem ig.diag {f:FuncId} {pa re:List (Bool×Sh)} (Fd:Nat->Nat->aw pa->Option (aw re)) (h:∀ d n,ig P hint sh ⟨f,pa,re,0,Fd d⟩ n) (n:Nat):ig P hint sh ⟨f,pa,re,0,fun n x=>Fd n n x⟩ n:=
 ⟨fun {x y Γ Pu I vs} hF hS hD=>(h n n).run (x:=x) (y:=y) (Γ:=Γ) hF hS hD⟩
end Go.Gv
/- Any data of the caller's, nested ones too: from a row's arguments to the pure functions. -/
namespace Go.Gv
open Go Go.Iv Go.RowKit Go.ChangeShapes Go.WideShapes
variable {P:Program} {H:Type} {enc:TypeId×Value->H}
def Pj (P:Program) (r:TypeId->Option Sh):Nat->List Field->Option Sh
 |_,[]=>none
 |off,f::fs=>match r f.type with
  |some s=>bif Nat.beq f.offset off &&Nat.beq (P.cellsOf f.type) s.sz then
    match fs with
    | []=>some s
    |fs=>match Pj P r (off+s.sz) fs with
     |some q=>some (.cons s q)
     |none=>none
   else none
  |none=>none
def Hz (P:Program):Nat->TypeId->Option Sh
 |0,_=>none
 |n+1,t=>match P.underlying t with
  |some (.int .u8)=>some .byte
  |some (.int k)=>some (.int k)
  |some .bool=>some .bool
  |some .string=>some .str
  |some (.slice e)=>match Hz P n e with
   |some s=>bif Nat.beq (P.cellsOf e) s.sz &&Nat.ble 1 s.sz &&Nat.ble 1 (P.bytesOf e) then some (.bH s) else none
   |none=>none
  |some (.struct fs)=>match Pj P (Hz P n) 0 fs.toList with
   |some s=>bif Nat.beq (P.cellsOf t) s.sz then some s else none
   |none=>none
  |_=>none
def Sh.bd:Sh->Nat
 | .cons a b=>a.bd+b.bd
 | .bH e=>1+reachBytes*e.bd
 |_=>0
def Sh.Rl (R:Nat):(s:Sh)->s.ty->Prop
 | .int k,n=>(Lit.int k n).wf=true
 | .byte,_=>True
 | .bool,_=>True
 | .str,s=>List.length s<=R
 | .cons a b,x=>a.Rl R x.1/\b.Rl R x.2
 | .bH e,xs=>List.length xs<=R/\∀ x∈xs,e.Rl R x
abbrev Sh.wf (s:Sh) (x:s.ty):Prop:=s.Rl reachBytes x
structure TU (R:Nat) (W:World) (l:List GV) (φ:Nat->Nat×Nat) (m:Nat) (s:Sh) (bd:Nat) (cs:List Value):Prop where
 all:∃ l' φ' m' vs x,qo W l' φ' m'/\jJ l φ m l' φ' m'/\m'<=m+bd/\bA (Dr l') (bp l') s x vs/\bX (bB φ' m') W vs cs/\s.Rl R x
theorem jJ.trans {l l' l2:List GV} {φ φ' φ2:Nat->Nat×Nat} {m m' m2:Nat} (h:jJ l φ m l' φ' m') (k:jJ l' φ' m' l2 φ2 m2):jJ l φ m l2 φ2 m2:=
 ⟨h.g.trans k.g,fun b o x=>k.h b o (h.h b o x)⟩
theorem jJ.U5 {l l':List GV} {φ φ':Nat->Nat×Nat} {m m':Nat} (h:jJ l φ m l' φ' m') {W:World} {v v':List Value} (hv:bX (bB φ m) W v v'):bX (bB φ' m') W v v':=hv.mono h.g (.refl _)
theorem E9 {W:World} {a:Addr} {n:Nat} {cs:List Value} (h:W.cells? 0 a n=some cs):cs.length=n/\∀ j v,cs[j]? =some v->W.cell? (a.add j)=some v:=by
 unfold World.cells? at h;rw [if_pos (Nat.zero_le _)] at h;refine ⟨by rw [Lib.mapM_length h];simp,fun j v hv=>?_⟩;have hj:j<n:=by
  have:=(List.getElem?_eq_some_iff.1 hv).1;rw [Lib.mapM_length h] at this;simpa using this
 obtain ⟨b,hb,hf⟩:=Lib.mapM_at h j j (by simp [hj])
 grind
theorem add_add (a:Addr) (i j:Nat):(a.add i).add j=a.add (i+j):=by
 unfold Addr.add
 grind
theorem j0 {α:Type} {f:Nat->Option α} {n:Nat} {l:List α} (h:(List.range n).mapM f=some l):l.length=n/\∀ i,i<n->∃ x,l[i]? =some x/\f i=some x:=
 ⟨by rw [Lib.mapM_length h];simp,fun i hi=>Lib.mapM_at h i i (by simp [hi])⟩
structure Rc (Q:DataW H->Prop) (R:Nat):Prop where
 str:∀ b:List UInt8,b.length<=reachBytes->Q (.lit (.string b))->b.length<=R
 agg:∀ ds,Q (.agg ds)->∀ d∈ds,Q d
 bH:∀ es sp,es.length+sp.length<=reachBytes->Q (.slice es sp)->es.length+sp.length<=R
 U4:∀ es sp,Q (.slice es sp)->(∀ d∈es,Q d)/\∀ d∈sp,Q d
theorem Rc.any:Rc (fun _:DataW H=>True) reachBytes:=⟨fun _ h _=>h,fun _ _ _ _=>trivial,fun _ _ h _=>h,fun _ _ _=>⟨fun _ _=>trivial,fun _ _=>trivial⟩⟩
variable {Q:DataW H->Prop} {R:Nat}
def Lt (P:Program) (Q:DataW H->Prop) (t:TypeId) (d:DataW H):Prop:=(∀ w∈d.weights P t,w<=reachBytes)/\Q d
theorem iB {e:TypeId} {d:DataW H}:∀ {l:List (DataW H)},d∈l->∀ w∈d.weights P e,w∈DataW.weightsAll P e l
 |x::r,h,w,hw=>by
  simp only [DataW.weightsAll,List.mem_append];rcases List.mem_cons.1 h with rfl |h
  .exact .inl hw
  .exact .inr (iB h w hw)
theorem kV:∀ {ts:List TypeId} {ds:List (DataW H)} {i:Nat} {t:TypeId} {d:DataW H},ts[i]? =some t->ds[i]? =some d->∀ w∈d.weights P t,w∈DataW.weightsEach P ts ds
 |t::ts,d::ds,0,_,_,ht,hd,w,hw=>by
  simp only [List.getElem?_cons_zero,Option.some.injEq] at ht hd;subst ht;subst hd;simp only [DataW.weightsEach,List.mem_append];exact .inl hw
 |t::ts,d::ds,i+1,_,_,ht,hd,w,hw=>by
  simp only [DataW.weightsEach,List.mem_append];exact .inr (kV (i:=i) (by grind) (by grind) w hw)
 | [],_,i,_,_,ht,_,w,hw=>by simp at ht
 |_::_,[],i,_,_,_,hd,w,hw=>by simp at hd
theorem RJ {W:World} {r:TypeId->Option Sh} {g:TypeId->List Value->Option (DataW H×List MemPlace)} {cs:List Value}
  (ih:∀ t s,r t=some s->∀ cs y,g t cs=some y->Lt P Q t y.1->∀ l φ m,qo W l φ m->bI+m+s.bd<=ep->TU R W l φ m s s.bd cs):
  ∀ (fs:List Field) (off:Nat) (s:Sh),Pj P r off fs=some s->off+s.sz<=cs.length->(∀ f∈fs,∃ y,g f.type ((cs.drop f.offset).take (P.cellsOf f.type))=some y/\Lt P Q f.type y.1)->
   ∀ l φ m,qo W l φ m->bI+m+s.bd<=ep->TU R W l φ m s s.bd ((cs.drop off).take s.sz):=by
 intro fs
 induction fs with
 |nil=>intro off s h;cases h
 |cons f fs ihf=>
  intro off s h hle hg l φ m hS hm;unfold Pj at h;split at h
  .rename_i s0 hs0
   replace h:=ad h;obtain ⟨hb,h⟩:=h;simp only [zae] at hb;have ho:=beq_true hb.1;have hc:=beq_true hb.2;obtain ⟨y,hy,hyw⟩:=hg f (List.mem_cons_self ..);rw [ho,hc] at hy;split at h
   .grind
   .split at h
    .rename_i q hq
     cases h;simp only [Sh.sz] at hle;simp only [Sh.bd] at hm;obtain ⟨l1,φ1,m1,vs1,x1,a1,a2,a3,a4,a5,a6⟩:=(ih _ _ hs0 _ y hy hyw l φ m hS (by omega)).all;obtain ⟨l2,φ2,m2,vs2,x2,b1,b2,b3,b4,b5,b6⟩:=(ihf _ q hq (by omega) (fun f hf=>hg f (zan _ hf)) l1 φ1 m1 a1 (by omega)).all;refine ⟨l2,φ2,m2,vs1++vs2,(x1,x2),b1,a2.trans b2,by simp only [Sh.bd];omega,?_,?_,⟨a6,b6⟩⟩
     .unfold bA;exact ⟨vs1,vs2,rfl,b2.enc a4,b4⟩
     .have e:(cs.drop off).take (s0.sz+q.sz)=(cs.drop off).take s0.sz++(cs.drop (off+s0.sz)).take q.sz:=by
       rw [List.take_add,zak]
      simp only [Sh.sz];rw [e];exact (b2.U5 a5).append b5
    .cases h
  .cases h
theorem Sl {W:World} {s:Sh} {e:TypeId} {g:List Value->Option (DataW H×List MemPlace)} {a:Addr}
  (ih:∀ cs y,g cs=some y->Lt P Q e y.1->∀ l φ m,qo W l φ m->bI+m+s.bd<=ep->TU R W l φ m s s.bd cs) {len:Nat}
  (hg:∀ i,i<len->∃ cs y,W.cells? 0 (a.add (i*s.sz)) s.sz=some cs/\g cs=some y/\Lt P Q e y.1) {l:List GV} {φ:Nat->Nat×Nat} {m:Nat} (hS:qo W l φ m) (hm:bI+m+len*s.bd<=ep):
  ∀ k,k<=len->∃ (l':List GV) (φ':Nat->Nat×Nat) (m':Nat) (vals:List Value) (xs:List s.ty),qo W l' φ' m'/\jJ l φ m l' φ' m'/\m'<=m+k*s.bd/\vals.length=k*s.sz/\List.length xs=k/\
   (∀ (i:Nat) (x:s.ty),xs[i]? =some x->bA (Dr l') (bp l') s x ((vals.drop (i*s.sz)).take s.sz))/\
   (∀ (j:Nat) (v:Value),vals[j]? =some v->∃ v',W.cell? (a.add j)=some v'/\VR (bB φ' m') W v v')/\∀ x∈xs,s.Rl R x:=by
 intro k
 induction k with
 |zero=>
  intro _;refine ⟨l,φ,m,[],[],hS,.refl _ _ _,by omega,by simp,rfl,?_,?_,?_⟩
  .intro i x h;simp at h
  .intro j v h;simp at h
  grind
 |succ k ihk=>
  intro hk;obtain ⟨l1,φ1,m1,vals,xs,a1,a2,a3,a4,a5,a6,a7,a8⟩:=ihk (by omega);obtain ⟨cs,y,h1,h2,h2w⟩:=hg k (by omega);have hkb:k*s.bd+s.bd<=len*s.bd:=by
   have:(k+1)*s.bd<=len*s.bd:=Nat.mul_le_mul_right _ hk;rw [zaj,Nat.one_mul] at this;exact this
  obtain ⟨l2,φ2,m2,vs,x,b1,b2,b3,b4,b5,b6⟩:=(ih cs y h2 h2w l1 φ1 m1 a1 (by omega)).all;have hvl:=b4.len;obtain ⟨hcl,hcat⟩:=E9 h1;refine ⟨l2,φ2,m2,vals++vs,xs++ [x],b1,a2.trans b2,by rw [zaj,Nat.one_mul];omega,by rw [zaf,a4,hvl,zaj,Nat.one_mul],by simp [a5],?_,?_,?_⟩
  .intro i z hz
   rcases Nat.lt_or_ge i k with h |h
   .rw [List.getElem?_append_left (by omega)] at hz
    have hi:=a6 i z hz;have hlt:i*s.sz+s.sz<=k*s.sz:=by
     have:(i+1)*s.sz<=k*s.sz:=Nat.mul_le_mul_right _ h;rw [zaj,Nat.one_mul] at this;exact this
    have e:((vals++vs).drop (i*s.sz)).take s.sz=(vals.drop (i*s.sz)).take s.sz:=by
     rw [List.drop_append_of_le_length (by omega),List.take_append_of_le_length (by rw [List.length_drop];omega)]
    rw [e];exact b2.enc hi
   .have hik:i=k:=by
     have:=(List.getElem?_eq_some_iff.1 hz).1;simp [a5] at this;omega
    subst hik;rw [List.getElem?_append_right (by omega),a5,Nat.sub_self] at hz;cases hz;have e:((vals++vs).drop (i*s.sz)).take s.sz=vs:=by
     rw [←a4,List.drop_left' rfl,List.take_of_length_le (by omega)]
    rw [e];exact b4
  .intro j v hv
   rcases Nat.lt_or_ge j vals.length with h |h
   .rw [List.getElem?_append_left h] at hv
    obtain ⟨v',c1,c2⟩:=a7 j v hv;exact ⟨v',c1,b2.vr c2⟩
   .rw [List.getElem?_append_right h] at hv
    obtain ⟨v',c1,c2⟩:=b5.get hv;refine ⟨v',?_,c2⟩;have:=hcat _ _ c1;rw [add_add,show k*s.sz+(j - vals.length)=j by omega] at this;exact this
  grind
section
variable {W:World} {sp:Nat->Bool} {r:TypeId->List Value->Option (DataW H×List MemPlace)} {t:TypeId} {cs:List Value} {y:DataW H×List MemPlace}
theorem Da {k:IntKind} (hu:P.underlying t=some (.int k)) (h:DataW.trodStep enc P W 0 sp true r t cs=some y):∃ z,cs= [.int k z]/\(Lit.int k z).wf=true:=by
 unfold DataW.trodStep at h
 grind
theorem JU (hu:P.underlying t=some .bool) (h:DataW.trodStep enc P W 0 sp true r t cs=some y):∃ b,cs= [.bool b]:=by
 unfold DataW.trodStep at h
 grind
theorem MC (hu:P.underlying t=some .string) (h:DataW.trodStep enc P W 0 sp true r t cs=some y):∃ s,cs= [.string s]/\y.1= .lit (.string s.data.toList):=by
 unfold DataW.trodStep at h
 grind
theorem Ce (hB:Rc Q R) {fs:Array Field} (hu:P.underlying t=some (.struct fs)) (h:DataW.trodStep enc P W 0 sp true r t cs=some y):
  cs.length=P.cellsOf t/\∀ f∈fs.toList,∃ z,r f.type ((cs.drop f.offset).take (P.cellsOf f.type))=some z/\(Lt P Q t y.1->Lt P Q f.type z.1):=by
 unfold DataW.trodStep at h;rw [hu] at h;have h':(if cs.length=P.cellsOf t then (fs.toList.mapM fun f=>r f.type ((cs.drop f.offset).take (P.cellsOf f.type))).map fun xs=>((.agg (xs.map (·.1)):DataW H),xs.flatMap (·.2)) else none)=some y:=by
  rcases cs with _ |⟨v,_ |⟨v2,rest⟩⟩
  .exact h
  .omega
  .omega
 split at h'
 .rename_i hl
  refine ⟨hl,fun f hf=>?_⟩;rw [Option.map_eq_some_iff] at h';obtain ⟨xs,hx,rfl⟩:=h';obtain ⟨i,hi⟩:=List.getElem?_of_mem hf;obtain ⟨b,hbi,hb⟩:=Lib.mapM_at hx i f hi;refine ⟨b,hb,fun hw=>⟨fun w hm=>hw.1 w ?_,hB.agg _ hw.2 _ (List.mem_map_of_mem (List.mem_of_getElem? hbi))⟩⟩;simp only [DataW.weights,hu];exact kV (i:=i) (by grind) (by grind) w hm
 .cases h'
theorem Ee (hB:Rc Q R) {e:TypeId} (hu:P.underlying t=some (.slice e)) (h:DataW.trodStep enc P W 0 (fun _=>true) true r t cs=some y):
  cs= [.slice none 0 0]\/∃ a len cap,cs= [.slice (some a) len cap]/\len<=cap/\(Lt P Q t y.1->cap*P.bytesOf e<=reachBytes/\(cap<=reachBytes->cap<=R))/\∀ i,i<cap->∃ c z,W.cells? 0 (a.add (i*P.cellsOf e)) (P.cellsOf e)=some c/\r e c=some z/\(Lt P Q t y.1->Lt P Q e z.1):=by
 unfold DataW.trodStep at h;rw [hu] at h;rcases cs with _ |⟨v,_ |⟨v2,rest⟩⟩
 .cases h
 .cases v with
  |slice a len cap=>
   cases a with
   |none=>
    cases len with
    |zero=>cases cap with
     |zero=>exact .inl rfl
     |succ c=>cases h
    |succ n=>cases h
   |some a=>
    simp only at h;split at h
    .rename_i hc
     obtain ⟨_,h1,h2⟩:=hc;rw [Option.bind_eq_some_iff] at h;obtain ⟨es,he,h⟩:=h;rw [Option.map_eq_some_iff] at h;obtain ⟨rs,hr,rfl⟩:=h;simp only [if_true] at hr;have l1:=(j0 he).1;have l2:=(j0 hr).1;refine .inr ⟨a,len,cap,rfl,h1,fun hw=>?_,fun i hi=>?_⟩
     .refine ⟨hw.1 _ ?_,fun hcr=>?_⟩
      .simp only [DataW.weights,hu,List.length_map,l1,l2]
       rw [show len+(cap - len)=cap by omega];exact List.mem_cons_self ..
      .have:=hB.bH _ _ (by simp only [List.length_map,l1,l2];omega) hw.2
       simp only [List.length_map,l1,l2] at this;omega
     have key:∃ x,(W.cells? 0 (a.add (i*P.cellsOf e)) (P.cellsOf e)).bind (r e)=some x/\(x∈es\/x∈rs):=by
      rcases Nat.lt_or_ge i len with h3 |h3
      .obtain ⟨x,hm,hx⟩:=(j0 he).2 i h3
       exact ⟨x,hx,.inl (List.mem_of_getElem? hm)⟩
      .obtain ⟨x,hm,hx⟩:=(j0 hr).2 (i - len) (by omega)
       rw [show len+(i - len)=i by omega] at hx;exact ⟨x,hx,.inr (List.mem_of_getElem? hm)⟩
     obtain ⟨x,hx,hmem⟩:=key;rw [Option.bind_eq_some_iff] at hx;obtain ⟨c,h4,h5⟩:=hx;refine ⟨c,x,h4,h5,fun hw=>⟨fun w hm=>hw.1 w ?_,hmem.elim (fun h=>(hB.U4 _ _ hw.2).1 _ (List.mem_map_of_mem h)) fun h=>(hB.U4 _ _ hw.2).2 _ (List.mem_map_of_mem h)⟩⟩;simp only [DataW.weights,hu,List.mem_cons,List.mem_append]
     right
     rcases hmem with hmem |hmem
     .exact .inl (iB (List.mem_map_of_mem hmem) w hm)
     .exact .inr (iB (List.mem_map_of_mem hmem) w hm)
    .cases h
  |_=>(try cases h)<;>(rename_i q;cases q<;>cases h)
 grind
end
theorem imp (hB:Rc Q R):∀ (n:Nat) (t:TypeId) (s:Sh),Hz P n t=some s->∀ {W:World} (fuel:Nat) (cs:List Value) (y:DataW H×List MemPlace),DataW.trod enc P W 0 (fun _=>true) true fuel t cs=some y->Lt P Q t y.1->
  ∀ l φ m,qo W l φ m->bI+m+s.bd<=ep->TU R W l φ m s s.bd cs:=by
 intro n
 induction n with
 |zero=>intro t s h;cases h
 |succ n ih=>
  intro t s hs W fuel cs y h hlt l φ m hS hm;cases fuel with
  |zero=>cases h
  |succ fuel=>
   rw [DataW.trod_step] at h;unfold Hz at hs;split at hs
   .rename_i hu
    cases hs;obtain ⟨z,rfl,hw⟩:=Da hu h;have hb:=bounds_u8 hw;refine ⟨l,φ,m,[.int .u8 z],UInt8.ofNat z.toNat,hS,.refl _ _ _,by simp [Sh.bd],?_,.cons (.int _ _) .nil,trivial⟩;unfold bA;rw [UInt8.toNat_ofNat']
    grind
   .rename_i k _ hu
    cases hs;obtain ⟨z,rfl,hw⟩:=Da hu h;exact ⟨l,φ,m,[.int k z],z,hS,.refl _ _ _,by simp [Sh.bd],by rfl,.cons (.int _ _) .nil,hw⟩
   .rename_i hu
    cases hs;obtain ⟨b,rfl⟩:=JU hu h;exact ⟨l,φ,m,[.bool b],b,hS,.refl _ _ _,by simp [Sh.bd],by rfl,.cons (.bool _) .nil,trivial⟩
   .rename_i hu
    cases hs;obtain ⟨b,rfl,hb⟩:=MC hu h;exact ⟨l,φ,m,[.string b],b.data.toList,hS,.refl _ _ _,by simp [Sh.bd],by rfl,.cons (.string _) .nil,by obtain ⟨q1,q2⟩:=hlt;rw [hb] at q1 q2;exact hB.str _ (q1 _ (List.mem_cons_self ..)) q2⟩
   .rename_i e hu
    split at hs
    .rename_i s0 hs0
     replace hs:=ad hs;obtain ⟨hb,hs⟩:=hs;cases hs;simp only [zae] at hb;have hc:=beq_true hb.1.1;have hpos:1<=s0.sz:=Nat.le_of_ble_eq_true hb.1.2;have hby:1<=P.bytesOf e:=Nat.le_of_ble_eq_true hb.2;simp only [Sh.bd] at hm;rcases Ee hB hu h with rfl |⟨a,len,cap,rfl,h1,h2,h3⟩
     .exact ⟨l,φ,m,[.slice none 0 0],[],hS,.refl _ _ _,by omega,by unfold bA;grind,.cons .Bu .nil,⟨Nat.zero_le _,fun x h=>by cases h⟩⟩
     .rw [hc] at h3
      obtain ⟨h2,h2R⟩:=h2 hlt;replace h2:cap<=reachBytes:=Nat.le_trans (by have:=Nat.mul_le_mul_left cap hby;omega) h2;replace h2R:=h2R h2;have hlb:len*s0.bd<=reachBytes*s0.bd:=Nat.mul_le_mul_right _ (Nat.le_trans h1 h2);obtain ⟨l1,φ1,m1,vals,xs,a1,a2,a3,a4,a5,a6,a7,a8⟩:=Sl (s:=s0) (e:=e) (g:=DataW.trod enc P W 0 (fun _=>true) true fuel e) (a:=a) (len:=len) (fun cs y hy hw l φ m hS hm=>ih e s0 hs0 fuel cs y hy hw l φ m hS hm) (fun i hi=>by grind) hS (by omega) len (zal _);rcases Nat.eq_zero_or_pos cap with h0 |h0
      .subst h0
       have hl0:len=0:=by omega
       subst hl0;have hx:xs= []:=List.eq_nil_of_length_eq_zero a5;subst hx;obtain ⟨r1,r2⟩:=a1.room (by omega) (a.block,0);refine ⟨l1,Ou φ1 m1 (a.block,0),m1+1,[.slice (some ⟨bI+m1,0,none⟩) 0 0],[],r1,a2.trans r2,by simp only [Sh.bd];omega,?_,.cons (.slice ?_ (by unfold ff;omega) (zal _) (.inl ⟨rfl,by rw [pA]⟩)) .nil,⟨Nat.zero_le _,fun x h=>by cases h⟩⟩
       .unfold bA;grind
       .show bI+m1<bI+(m1+1);omega
      .-- a block
       obtain ⟨c,_,hcl,_⟩:=h3 (cap - 1) (by omega);obtain ⟨hcn,hca⟩:=E9 hcl;have hlast:∃ v,c[s0.sz - 1]? =some v:=⟨_,zam (by omega)⟩;obtain ⟨v,hv⟩:=hlast;have hcell:=hca _ _ hv;rw [add_add] at hcell;obtain ⟨c0,_,hcl0,_⟩:=h3 0 h0;obtain ⟨hcn0,hca0⟩:=E9 hcl0;have hfirst:∃ v,c0[0]? =some v:=⟨_,zam (by omega)⟩;obtain ⟨v0,hv0⟩:=hfirst;have hcell0:=hca0 _ _ hv0;rw [add_add,Nat.zero_mul,Nat.zero_add] at hcell0;have hs0':a.spot=none:=by
        have:=World.cell?_spot hcell0;simpa [Addr.add] using this
       obtain ⟨cs',et,f,hblk,hat⟩:=yJ hs0' hcell;have hroom:a.off+cap*s0.sz<=cs'.size:=by
        have:=(Array.getElem?_eq_some_iff.1 hat).1;have e:(cap - 1)*s0.sz+(s0.sz - 1)+1=cap*s0.sz:=by
         have:cap*s0.sz=(cap - 1)*s0.sz+s0.sz:=by
          obtain ⟨q,rfl⟩:∃ q,cap=q+1:=⟨cap - 1,by omega⟩;rw [zaj,Nat.one_mul];rfl
         omega
        omega
       have hle:len*s0.sz<=cap*s0.sz:=Nat.mul_le_mul_right _ h1;obtain ⟨r1,r2,r3,r4⟩:=a1.add (by omega) (a.block,a.off) et vals ⟨cs',f,hblk,by omega,fun i v hv=>by
        obtain ⟨v',h4,h5⟩:=a7 i v hv;obtain ⟨cs2,e2,f2,hb2,h6⟩:=yJ hs0' h4
        grind⟩
       refine ⟨_,_,m1+1,[.slice (some ⟨bI+m1,0,none⟩) len (ff+s0.sz)],xs,r1,a2.trans r2,by simp only [Sh.bd];omega,?_,.cons (.dK ?_ h1 (.inr ⟨?_,cs',et,f,hblk,hroom⟩)) .nil,⟨by omega,a8⟩⟩
       .unfold bA
        refine .inr (.inl ⟨bI+m1,0,ff+s0.sz,vals,et,0,false,false,by rw [a5],⟨_,r4⟩,r4,.inl rfl,by grind,fun i x hx=>?_⟩);rw [Nat.zero_add];exact r2.enc (a6 i x hx)
       .show bI+m1<bI+(m1+1);omega
       .obtain ⟨b,o,q⟩:=a
        simp only at hs0';subst hs0';simp only [Ga.at,r3,Nat.add_zero]
    .cases hs
   .rename_i fs hu
    split at hs
    .rename_i s0 hs0
     replace hs:=ad hs;obtain ⟨hb,hs⟩:=hs;cases hs;have hc:=beq_true hb;obtain ⟨h1,h2⟩:=Ce hB hu h;have:=RJ (W:=W) (r:=Hz P n) (g:=DataW.trod enc P W 0 (fun _=>true) true fuel) (cs:=cs) (fun t s hts cs y hy hw l φ m hS hm=>ih t s hts fuel cs y hy hw l φ m hS hm) fs.toList 0 s hs0 (by omega) (fun f hf=>by obtain ⟨z,q1,q2⟩:=h2 f hf;exact ⟨z,q1,q2 hlt⟩) l φ m hS hm;rw [List.drop_zero,List.take_of_length_le (by omega)] at this;exact this
    .cases hs
   .cases hs
def TW (R:Nat):(pa:List (Bool×Sh))->aw pa->Prop
 | [],_=>True
 |(_,s)::r,x=>s.Rl R x.1/\TW R r x.2
abbrev U7 (pa:List (Bool×Sh)) (x:aw pa):Prop:=TW reachBytes pa x
def SS:List (Bool×Sh)->Nat
 | []=>0
 |(_,s)::r=>s.bd+SS r
def Ph (P:Program) (t:TypeId):Bool:=
 match P.underlying t with
 |some (.struct _) |some (.array _ _)=>true
 |_=>false
inductive wY (P:Program):List TypeId->List (Bool×Sh)->Prop
 |nil:wY P [] []
 |cons {t:TypeId} {ts:List TypeId} {s:Sh} {pa:List (Bool×Sh)} {g:Bool} (n:Nat) (hg:Ph P t=g) (h:Hz P n t=some s) (r:wY P ts pa):wY P (t::ts) ((g,s)::pa)
theorem EX {W:World} {r:Reach} {b:Nat} {t:TypeId} {cs:Array Value}:¬ Cell.okWide P W r b t (.agg cs):=by
 intro h;unfold Cell.okWide at h;split at h<;>try (rename_i e;cases e;done)
 all_goals first
  |(rename_i e _;cases e;done)
  |(unfold Cell.ok at h;split at h<;>first |(rename_i e;cases e;done) |(rename_i e _;cases e;done) |exact h)
theorem FQ {W:World} {r:Reach} {b:Nat} {t:TypeId} {v:Value} (h:Value.okWide P W r b t v):(Ph P t=true->∃ cs,v= .agg cs)/\(Ph P t=false->v.cells.toList= [v]):=by
 unfold Value.okWide at h;unfold Ph;split at h
 .rename_i e
  obtain ⟨cs,rfl,_⟩:=h;rw [e];exact ⟨fun _=>⟨cs,rfl⟩,(fun x=>by cases x)⟩
 .rename_i e
  obtain ⟨cs,rfl,_⟩:=h;rw [e];exact ⟨fun _=>⟨cs,rfl⟩,(fun x=>by cases x)⟩
 .rename_i n1 n2
  have hx:(match P.underlying t with |some (.struct _) |some (.array _ _)=>true |_=>false)=false:=by
   split
   .rename_i e;exact absurd e (n1 _)
   .rename_i e;exact absurd e (n2 _ _)
   .rfl
  rw [hx];refine ⟨(fun x=>by cases x),fun _=>?_⟩;cases v with
  |agg cs=>exact absurd h EX
  |_=>rfl
theorem wU {W:World} {b:Nat} {t:TypeId} {v:Value} (h:Cell.okWide P W .any b t v):Cell.okWide P W .any 0 t v:=by
 unfold Cell.okWide at h ⊢;split at h<;>trivial
theorem Bm {W:World} {b:Nat} {t:TypeId} {v:Value} (h:Value.okWide P W .any b t v):Value.okWide P W .any 0 t v:=by
 have rowb:∀ t cs,Row.okWide P W .any b t cs->Row.okWide P W .any 0 t cs:=fun t cs h=>by
  obtain ⟨ts,h1,h2,h3⟩:=h;exact ⟨ts,h1,h2,fun i v hv=>by obtain ⟨u,h4,h5⟩:=h3 i v hv;exact ⟨u,h4,wU h5⟩⟩
 unfold Value.okWide at h ⊢;split at h
 .obtain ⟨cs,h1,h2,h3⟩:=h;exact ⟨cs,h1,h2,rowb _ _ h3⟩
 .obtain ⟨cs,h1,h2,h3⟩:=h;exact ⟨cs,h1,h2,rowb _ _ h3⟩
 .exact wU h
theorem OL (hB:Rc Q R) {W:World} {ts:List TypeId} {pa:List (Bool×Sh)} (hsh:wY P ts pa):∀ {vs:List Value} {ds:List (DataW H)} {ps:List MemPlace},DataW.TrodAll enc P W 0 (fun _=>true) true ts vs ds ps->
  (∀ (j:Nat) t v,ts[j]? =some t->vs[j]? =some v->Value.okWide P W .any 0 t v)->(∀ w∈DataW.weightsEach P ts ds,w<=reachBytes)->(∀ d∈ds,Q d)->∀ l φ m,qo W l φ m->bI+m+SS pa<=ep->
  ∃ l' φ' m' us x,qo W l' φ' m'/\jJ l φ m l' φ' m'/\sN (Dr l') (bp l') pa x us/\bX (bB φ' m') W us vs/\TW R pa x:=by
 induction hsh with
 |nil=>
  intro vs ds ps h _ _ _ l φ m hS _;obtain ⟨rfl,rfl,rfl⟩:=trodAll_nil h;exact ⟨l,φ,m,[],(),hS,.refl _ _ _,rfl,.nil,trivial⟩
 |@cons t ts s pa g n ql hs hr ih=>
  intro vs ds ps h hval hwt hQ l φ m hS hm;obtain ⟨v,vs',d,ds',p,q,rfl,rfl,rfl,hd,hrest⟩:=trodAll_cons h;simp only [SS] at hm;obtain ⟨fuel,hd⟩:=hd;obtain ⟨l1,φ1,m1,cs,x,a1,a2,a3,a4,a5,a6⟩:=(imp hB n t s hs fuel _ _ hd ⟨fun w hw=>hwt w (by simp only [DataW.weightsEach,List.mem_append];exact .inl hw),hQ _ (List.mem_cons_self ..)⟩ l φ m hS (by omega)).all;obtain ⟨l2,φ2,m2,us,y,b1,b2,b3,b4,b5⟩:=ih hrest (fun j t v hj hv=>hval (j+1) t v (by simpa using hj) (by simpa using hv)) (fun w hw=>hwt w (by simp only [DataW.weightsEach,List.mem_append];exact .inr hw)) (fun d hd=>hQ d (zan _ hd)) l1 φ1 m1 a1 (by omega);have hag:=FQ (hval 0 t v rfl rfl);rw [ql] at hag;cases g with
  |true=>
   obtain ⟨ca,rfl⟩:=hag.1 rfl;refine ⟨l2,φ2,m2,.agg ⟨cs⟩::us,(x,y),b1,a2.trans b2,⟨_,_,rfl,⟨b2.enc a4,(fun _=>⟨_,rfl⟩),(fun h=>by cases h)⟩,b3⟩,.cons (.agg (b2.U5 a5)) b4,⟨a6,b5⟩⟩
  |false=>
   have hc:=hag.2 rfl;rw [hc] at a5;cases a5 with
   |cons h1 h2=>
    cases h2;rename_i u;have hu:u.cells.toList= [u]:=by
     cases u with
     |agg c=>
      cases h1 with
      |agg _=>
       exfalso
       have:∀ c:Array Value,(Value.agg c).cells.toList≠ [Value.agg c]:=fun c h=>by
        have h':c.toList= [Value.agg c]:=h;have:=congrArg (fun l:List Value=>SizeOf.sizeOf l) h';obtain ⟨c⟩:=c;simp at this;omega
       exact this _ hc
     |_=>rfl
    refine ⟨l2,φ2,m2,u::us,(x,y),b1,a2.trans b2,⟨_,_,rfl,⟨by rw [hu];exact b2.enc a4,(fun h=>by cases h),fun _=>hu⟩,b3⟩,.cons (b2.vr h1) b4,⟨a6,b5⟩⟩
theorem JY (hB:Rc Q R) {hint:Hint} {sh:bU} (hsp:qp P (cj hint)) (hng:lr P=true) (hm:P.follows .mixedOrders=true) {it:fH} {n:Nat} (hal:nj (hint jc) it.f=none) (hok:ig P hint sh it n) {y:aw it.re}
  (hF:∀ x,TW R it.pa x->it.F n x=some y) (hy:∀ {Γ:aN} {Pu:Nat->Prop} {I:IH} {v:Value},GR Γ Pu I (jk (dC it.re y)) v->v= .bool true)
  {ts:List TypeId} (hsh:wY P ts it.pa) {W:World} {l:List GV} {φ:Nat->Nat×Nat} {m:Nat} (hS:qo W l φ m) (ht:lP sh (Dr l) (bp l)) (hbd:bI+m+SS it.pa<=ep)
  {args:Array Value} {ds:List (DataW H)} {ps:List MemPlace} (hA:DataW.TrodAll enc P W 0 (fun _=>true) true ts args.toList ds ps) (hval:∀ (j:Nat) t v,ts[j]? =some t->args.toList[j]? =some v->Value.okWide P W .any 0 t v) (hwt:∀ w∈DataW.weightsEach P ts ds,w<=reachBytes) (hQ:∀ d∈ds,Q d):
  Calls P it.f args W fun e w'=>e= .returned (.bool true)/\Below W.heap.size W w':=by
 obtain ⟨l',φ',m',us,x,a1,a2,a3,a4,a5⟩:=OL hB hsh hA hval hwt hQ l φ m hS hbd;exact PK hsp hng hm hal hok (hF x a5) hy a1 (a2.Uv ht) a3 a4
theorem Lc {hint:Hint} {sh:bU} (hsp:qp P (cj hint)) (hng:lr P=true) (hm:P.follows .mixedOrders=true) {it:fH} {n:Nat} (hal:nj (hint jc) it.f=none) (hok:ig P hint sh it n) {y:aw it.re}
  (hF:∀ x,U7 it.pa x->it.F n x=some y) (hy:∀ {Γ:aN} {Pu:Nat->Prop} {I:IH} {v:Value},GR Γ Pu I (jk (dC it.re y)) v->v= .bool true)
  {ts:List TypeId} (hsh:wY P ts it.pa) {W:World} {l:List GV} {φ:Nat->Nat×Nat} {m:Nat} (hS:qo W l φ m) (ht:lP sh (Dr l) (bp l)) (hbd:bI+m+SS it.pa<=ep)
  {args:Array Value} {ds:List (DataW H)} {ps:List MemPlace} (hA:DataW.TrodAll enc P W 0 (fun _=>true) true ts args.toList ds ps) (hval:∀ (j:Nat) t v,ts[j]? =some t->args.toList[j]? =some v->Value.okWide P W .any 0 t v) (hwt:∀ w∈DataW.weightsEach P ts ds,w<=reachBytes):
  Calls P it.f args W fun e w'=>e= .returned (.bool true)/\Below W.heap.size W w':=
 JY Rc.any hsp hng hm hal hok hF hy hsh hS ht hbd hA hval hwt fun _ _=>trivial
theorem Q3 (hl:laidOutB P=true) {t:TypeId} (hr:P.readableRec t=true) (hrow:t<P.types.size) {W W':World} {v:Value} {d:DataW H} {ps:List MemPlace}
  (h:DataW.Trod enc P W 0 (fun _=>true) true t v d ps) (hb:Below W.heap.size W W') (hlt:∀ x∈ps,x.block<W.heap.size) (sp:Nat->Bool) (hsp:∀ p∈ps,sp p.block=true):DataW.Trod enc P W' 0 sp true t v d ps:=
 WideElems.Trod_stays hl hr hrow h (fun x hx=>hb.same (hlt x hx)) hsp
end Go.Gv
/- Functions of Go's library whose answers are told: what the kit's contracts say of them, for the evaluator. -/
namespace Go.Gv
open Go Go.Iv Go.RowKit
variable {P:Program}
theorem JI {f g:Nat} {nm:String} (hb:∃ fn c,P.funcs[f]? =some fn/\fn.body=some c) (hn:P.globalNamed nm=some g)
  (hc:∀ (n:Int) (w:World), -9223372036854775808<=n->n<=9223372036854775807->Lib.TabIs P w nm .u64 Lib.pow10Tab->
   Calls P f #[.int .i64 n] w fun e w'=>e= .returned (.string ⟨(Lib.itoa n).toArray⟩)/\∃ k os,w'=Go.Sort.grow (w.drewN k) os):si P 1 f g:=by
 refine ⟨hb,fun {args I v} hv {Γ w args'} hR ha=>?_⟩;unfold jF at hv;split at hv
 .omega
 .rename_i n _
  split at hv
  .rename_i hh
   cases hv;obtain ⟨hin,hg,cs,et,fz,ex,sd,hI,hex,hlen,hat⟩:=hh;have ha':args'=#[.int .i64 n]:=by
    obtain ⟨l⟩:=args';cases ha with |cons a b=>cases a;cases b;rfl
   subst ha';obtain ⟨cs',lo,hi,hC⟩:=hR.obj g _ hI;have hφ:=(hR.cq g hg).2;have hsz:=hC.lM hex;have htab:Lib.TabIs P w nm .u64 Lib.pow10Tab:=by
    unfold Lib.TabIs World.var?;rw [hn];simp only [zaa];have hbk:=hC.block;rw [hφ] at hbk;simp only at hbk;rw [hbk];simp only [Option.some.injEq];have hp:Lib.pow10Tab=lD:=by decide
    rw [hp];apply Array.ext';apply List.ext_getElem?;intro i;rcases Nat.lt_or_ge i (lD.length) with hi |hi
    .have hv:(lD.map fun z=>Value.int .u64 z)[i]? =some (.int .u64 lD[i]):=by rw [List.getElem?_map,zam hi];rfl
     obtain ⟨v',h1,h2⟩:=hC.cell i _ (hat i _ hv);rw [hφ] at h1;simp only [Nat.zero_add] at h1;cases h2
     grind
    .grind
   simp only [FG,zae] at hin;have h1: -9223372036854775808<=n:=bM hin.1;have h2:n<=9223372036854775807:=bM hin.2;refine og hR (v':= .string ⟨(Lib.itoa n).toArray⟩) (fun w'=> .string _) ((hc n w h1 h2 htab).mono ?_);rintro e w' ⟨rfl,k,os,rfl⟩;exact ⟨rfl,Go.Lib.below_grow _ w (zal _) k os⟩
  .cases hv
 .omega
 .omega
 .cases hv
theorem HR {f g:Nat} (hb:∃ fn c,P.funcs[f]? =some fn/\fn.body=some c)
  (hc:∀ (s cutset:ByteArray) (w:World),cutset.size<4294967281->(∀ (j:Nat) b,cutset.data.toList[j]? =some b->b.toNat<128)->
   Calls P f #[.string s,.string cutset] w fun e w'=>e= .returned (.string ⟨(Lib.trimLeftS s.data.toList cutset.data.toList).toArray⟩)/\Below w.heap.size w w'):si P 2 f g:=by
 refine ⟨hb,fun {args I v} hv {Γ w args'} hR ha=>?_⟩;unfold jF at hv;split at hv
 .omega
 .omega
 .rename_i s cs _
  cases ht:oq (bl cs) with
  |false=>grind
  |true=>
   rw [ht] at hv;cases hv;have ha':args'=#[.string s,.string cs]:=by
    obtain ⟨l⟩:=args';cases ha with |cons a b=>
    cases a;cases b with |cons a b=>cases a;cases b;rfl
   subst ha';simp only [oq,zae,List.all_eq_true] at ht;obtain ⟨⟨_,h2⟩,h3⟩:=ht;have hsz:cs.size=(bl cs).length:=by unfold bl;simp
   refine og hR (v':= .string ⟨(Lib.trimLeftS s.data.toList cs.data.toList).toArray⟩) (fun w'=> .string _) (hc s cs w ?_ ?_)
   .have:=Nat.le_of_ble_eq_true h2;omega
   .intro j b hj
    exact Nat.le_of_ble_eq_true (h3 b (List.mem_of_getElem? hj))
 .omega
 .cases hv
theorem M9:∀ c:Fin 256,(rz[c.val]?).map (·.toNat)=some (Lib.firstT c.val):=by decide+kernel
theorem Sc:∀ i:Fin 16,(Ju[i.val]?).map (fun p=>(p.1.toNat,p.2.toNat))=some (Lib.accLo i.val,Lib.accHi i.val):=by decide+kernel
theorem uk {g:Nat} {I:IH} {Γ:Ga} {w:World} {zs:List Value} (hR:Rh Γ I w) (hg:g<bI) (ht:Ai I g zs) {i:Nat} {k:IntKind} {n:Int} (hz:zs[i]? =some (.int k n)):w.cell? ⟨g,i,none⟩=some (.int k n):=by
 obtain ⟨cs,et,fz,ex,sd,hI,hex,hlen,hat⟩:=ht;obtain ⟨cs',lo,hi,hC⟩:=hR.obj g _ hI;have hφ:=(hR.cq g hg).2;obtain ⟨v',h1,h2⟩:=hC.cell i _ (hat i _ hz);have hb:=hC.block;rw [hφ] at h1 hb;simp only [Nat.zero_add] at h1 hb;cases h2;unfold World.cell?
 grind
theorem Fw {f g1 g2:Nat} (h2:g2<1000) (hb:∃ fn c,P.funcs[f]? =some fn/\fn.body=some c)
  (hc:∀ (s:ByteArray) (w:World),s.size<=9223372036854775807->Lib.Utf8Tabs g1 g2 w->Calls P f #[.string s] w fun e w'=>e= .returned (.bool (Lib.validD s.data.toList))/\Below w.heap.size w w'):si P 3 f (g1*1000+g2):=by
 refine ⟨hb,fun {args I v} hv {Γ w args'} hR ha=>?_⟩;have e1:(g1*1000+g2) / 1000=g1:=by omega
 have e2:(g1*1000+g2)%1000=g2:=by omega
 unfold jF at hv;split at hv
 .omega
 .omega
 .omega
 .rename_i s _
  split at hv
  .rename_i hh
   cases hv;rw [e1,e2] at hh;obtain ⟨hlen,⟨hg1,hg2⟩,t1,t2⟩:=hh;have ha':args'=#[.string s]:=by
    obtain ⟨l⟩:=args';cases ha with |cons a b=>cases a;cases b;rfl
   subst ha';have htab:Lib.Utf8Tabs g1 g2 w:=by
    refine ⟨fun c hc=>?_,fun i hi=>?_⟩
    .have h3:=M9 ⟨c,hc⟩
     rw [Option.map_eq_some_iff] at h3;obtain ⟨z,hz,hn⟩:=h3;have:(rz.map rX)[c]? =some (.int .u8 (Lib.firstT c)):=by
      rw [List.getElem?_map,hz,←hn];rfl
     exact uk hR hg1 t1 this
    .have h3:=Sc ⟨i,hi⟩
     rw [Option.map_eq_some_iff] at h3;obtain ⟨p,hp,hn⟩:=h3;simp only [Prod.mk.injEq] at hn;have hf:∀ (l:List (UInt8×UInt8)) (i:Nat) (p:UInt8×UInt8),l[i]? =some p->(l.flatMap fun p=> [rX p.1,rX p.2])[2*i]? =some (rX p.1)/\(l.flatMap fun p=> [rX p.1,rX p.2])[2*i+1]? =some (rX p.2):=by
      intro l
      induction l with
      |nil=>grind
      |cons a r ih=>
       intro i p h;cases i with
       |zero=>grind
       |succ i=>
        grind
     obtain ⟨q1,q2⟩:=hf Ju i p hp;unfold rX at q1 q2;rw [hn.1] at q1;rw [hn.2] at q2;exact ⟨uk hR hg2 t2 q1,uk hR hg2 t2 q2⟩
   have hsz:s.size<=9223372036854775807:=by
    have:=Nat.le_of_ble_eq_true hlen;unfold bl at this;simpa using this
   exact og hR (v':= .bool (Lib.validD s.data.toList)) (fun w'=> .bool _) (hc s w hsz htab)
  .cases hv
 .cases hv
end Go.Gv
