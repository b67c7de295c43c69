/- The relation between the ideal heap and a world of the model, and how it goes on through new blocks, stores and appends. -/
import Derived.Test.YteknbnkjelmfaaaGreatDoorGvCode
import Derived.WalkKit
set_option linter.unusedSimpArgs false
set_option linter.unusedVariables false
namespace Go.Iv
open Go
theorem Tr.NG {α:Type} (v:Option α):∀ (f:Nat) (t:Tr α) (n k:Nat),n<f->(Tr.gp v f t n).get k=if k=n then v else t.get k:=by
 intro f
 induction f with
 |zero=>omega
 |succ f ih=>
  intro t n k h;have far:∀ (j m:Nat) (a b:Option α),¬ j=m->(if j+1=m+1 then a else b)=b:=fun j m a b e=>if_neg (by omega)
  have near:∀ (j m:Nat) (a b:Option α),j%2=m%2->(if j / 2=m / 2 then a else b)=if j+1=m+1 then a else b:=fun j m a b e=>by
   grind
  cases t with
  |nil=>
   cases n with
   |zero=>
    simp only [Tr.gp];cases k with
    |zero=>simp [Tr.get]
    |succ m=>simp only [Tr.get];grind
   |succ m=>
    have hm:m / 2<f:=by omega
    cases k with
    |zero=>simp only [Tr.gp];split<;>simp [Tr.get]
    |succ j=>
     rcases Nat.mod_two_eq_zero_or_one m with hm2 |hm2<;>rcases Nat.mod_two_eq_zero_or_one j with hj |hj
     .simp only [Tr.gp,Tr.get,hm2,hj];rw [ih _ _ _ hm,near _ _ _ _ (hj.trans hm2.symm)];simp [Tr.get]
     .simp only [Tr.gp,Tr.get,hm2,hj];grind
     .simp only [Tr.gp,Tr.get,hm2,hj];grind
     .simp only [Tr.gp,Tr.get,hm2,hj];rw [ih _ _ _ hm,near _ _ _ _ (hj.trans hm2.symm)];simp [Tr.get]
  |node l x r=>
   cases n with
   |zero=>
    simp only [Tr.gp];cases k with
    |zero=>simp [Tr.get]
    |succ m=>simp [Tr.get]
   |succ m=>
    have hm:m / 2<f:=by omega
    cases k with
    |zero=>simp only [Tr.gp];split<;>simp [Tr.get]
    |succ j=>
     rcases Nat.mod_two_eq_zero_or_one m with hm2 |hm2<;>rcases Nat.mod_two_eq_zero_or_one j with hj |hj
     .simp only [Tr.gp,Tr.get,hm2,hj];grind
     .simp only [Tr.gp,Tr.get,hm2,hj];grind
     .simp only [Tr.gp,Tr.get,hm2,hj];grind
     .simp only [Tr.gp,Tr.get,hm2,hj];grind
theorem Tr.ag {α:Type} (t:Tr α) (n:Nat) (v:Option α) (k:Nat):(t.put n v).get k=if k=n then v else t.get k:=
 Tr.NG v (n+1) t n k (by omega)
theorem Tr.IU {α:Type} (v v':Option α):∀ (f:Nat) (t:Tr α) (n:Nat),Tr.gp v' f (Tr.gp v f t n) n=Tr.gp v' f t n:=by
 intro f
 induction f with
 |zero=>intro t n;rfl
 |succ f ih=>
  intro t n;cases t with
  |nil=>
   cases n with
   |zero=>rfl
   |succ m=>rcases Nat.mod_two_eq_zero_or_one m with h |h<;>simp [Tr.gp,h,ih]
  |node l x r=>
   cases n with
   |zero=>rfl
   |succ m=>rcases Nat.mod_two_eq_zero_or_one m with h |h<;>simp [Tr.gp,h,ih]
theorem IH.GS (H:IH) (o o':bN):(H.new o).put H.n o'=H.new o':=by
 simp only [IH.new,IH.put,Tr.eI,Tr.IU]
theorem Rf (b:Nat):kx b=if ep<=b then 2*(b - ep)+1 else 2*b:=by
 unfold kx
 simp_all
theorem RE {a b:Nat} (h:kx a=kx b):a=b:=by
 rw [Rf,Rf] at h
 grind
theorem xB {α:Type} (a b:Nat) (x y:α):(if kx a=kx b then x else y)=if a=b then x else y:=by
 by_cases h:a=b
 .subst h;simp
 .rw [if_neg h,if_neg fun e=>h (RE e)]
theorem IH.get_eq (H:IH) (b:Nat):H.get b=H.t.get (kx b):=Tr.fq H.t (kx b)
theorem IH.ag (H:IH) (b:Nat) (o:bN) (k:Nat):(H.put b o).get k=if k=b then some o else H.get k:=by
 rw [IH.get_eq,IH.get_eq];simp only [IH.put,Tr.eI];exact (Tr.ag _ _ _ _).trans (xB ..)
theorem IH.cf (H:IH) (b:Nat) (k:Nat):(H.del b).get k=if k=b then none else H.get k:=by
 rw [IH.get_eq,IH.get_eq];simp only [IH.del,Tr.eI];exact (Tr.ag _ _ _ _).trans (xB ..)
theorem IH.ay (H:IH) (o:bN) (k:Nat):(H.new o).get k=if k=H.n then some o else H.get k:=by
 rw [IH.get_eq,IH.get_eq];simp only [IH.new,Tr.eI];exact (Tr.ag _ _ _ _).trans (xB ..)
@[simp] theorem IH.QQ (H:IH) (b:Nat) (o:bN):(H.put b o).n=H.n:=rfl
@[simp] theorem IH.Tg (H:IH) (b:Nat):(H.del b).n=H.n:=rfl
@[simp] theorem IH.LX (H:IH) (o:bN):(H.new o).n=H.n+1:=rfl
structure Ga where
 φ:Nat->Nat×Nat
 aT:Nat->Prop
def Room (w:World) (a:Addr) (n:Nat):Prop:=∃ cs e f,w.heap[a.block]? =some (.cells cs e f)/\a.off+n<=cs.size
def Ga.at (Γ:Ga) (b o:Nat):Addr:=⟨(Γ.φ b).1,(Γ.φ b).2+o,none⟩
mutual
inductive VR (Γ:Ga) (w:World):Value->Value->Prop
 |bool (b:Bool):VR Γ w (.bool b) (.bool b)
 |int (k:IntKind) (n:Int):VR Γ w (.int k n) (.int k n)
 |float (k:FloatKind) (n:Nat):VR Γ w (.float k n) (.float k n)
 |complex (k:FloatKind) (n m:Nat):VR Γ w (.complex k n m) (.complex k n m)
 |string (s:ByteArray):VR Γ w (.string s) (.string s)
 |wN:VR Γ w (.pointer none) (.pointer none)
 |ptr {b o:Nat} (h:Γ.aT b):VR Γ w (.pointer (some ⟨b,o,none⟩)) (.pointer (some (Γ.at b o)))
 |Bu:VR Γ w (.slice none 0 0) (.slice none 0 0)
 |slice {b o l c:Nat} {a:Addr} (h:Γ.aT b) (hc:c<ff) (hl:l<=c) (ha:(c=0/\a.block=(Γ.φ b).1)\/a=Γ.at b o):VR Γ w (.slice (some ⟨b,o,none⟩) l c) (.slice (some a) l c)
 |dK {b o l s c:Nat} {a:Addr} (h:Γ.aT b) (hl:l<=c) (hr:(c=0/\l=0/\a.block=(Γ.φ b).1)\/(a=Γ.at b o/\Room w a (c*s))):
   VR Γ w (.slice (some ⟨b,o,none⟩) l (ff+s)) (.slice (some a) l c)
 |EC:VR Γ w (.map none) (.map none)
 |map {r:Nat} (h:Γ.aT r):VR Γ w (.map (some r)) (.map (some (Γ.φ r).1))
 |Bk:VR Γ w (.chan none) (.chan none)
 |func {fn:Fn} {a c a' c':Array Value} (hf:fW fn=true) (ha:bX Γ w a.toList a'.toList) (hc:bX Γ w c.toList c'.toList):
   VR Γ w (.func fn a c) (.func fn a' c')
 |yield {l:Nat} (h:Γ.aT l):VR Γ w (.func (.yield l) #[] #[]) (.func (.yield (Γ.φ l).1) #[] #[])
 |nilFunc:VR Γ w .nilFunc .nilFunc
 |iface (t:TypeId) {v v':Value} (h:VR Γ w v v'):VR Γ w (.iface t v) (.iface t v')
 |nilIface:VR Γ w .nilIface .nilIface
 |agg {a a':Array Value} (h:bX Γ w a.toList a'.toList):VR Γ w (.agg a) (.agg a')
 |tuple {a a':Array Value} (h:bX Γ w a.toList a'.toList):VR Γ w (.tuple a) (.tuple a')
 |aO (v':Value):VR Γ w (.chan (some 0)) v'
inductive bX (Γ:Ga) (w:World):List Value->List Value->Prop
 |nil:bX Γ w [] []
 |cons {v v':Value} {l l':List Value} (h:VR Γ w v v') (t:bX Γ w l l'):bX Γ w (v::l) (v'::l')
end
def eD (w w':World):Prop:=∀ (b:Nat) (cs:Array Value) (e:TypeId) (f:Nat×Nat),w.heap[b]? =some (.cells cs e f)->
 ∃ (cs':Array Value) (f':Nat×Nat),w'.heap[b]? =some (.cells cs' e f')/\cs'.size=cs.size
theorem eD.refl (w:World):eD w w:=fun _ cs _ f h=>⟨cs,f,h,rfl⟩
theorem eD.trans {a b c:World} (h:eD a b) (k:eD b c):eD a c:=fun x cs e f hx=>by
 obtain ⟨cs1,f1,h1,s1⟩:=h x cs e f hx;obtain ⟨cs2,f2,h2,s2⟩:=k x cs1 e f1 h1
 grind
theorem Room.same {w w':World} {a:Addr} {n:Nat} (h:Room w a n) (hs:eD w w'):Room w' a n:=by
 obtain ⟨cs,e,f,h1,h2⟩:=h;obtain ⟨cs',f',h3,h4⟩:=hs _ _ _ _ h1;exact ⟨cs',e,f',h3,by omega⟩
structure Ga.le (Γ Γ':Ga):Prop where
 aT:∀ i,Γ.aT i->Γ'.aT i
 φ:∀ i,Γ.aT i->Γ'.φ i=Γ.φ i
theorem Ga.le.refl (Γ:Ga):Γ.le Γ:=⟨fun _ h=>h,fun _ _=>rfl⟩
theorem Ga.le.trans {a b c:Ga} (h:a.le b) (k:b.le c):a.le c:=⟨fun i x=>k.aT i (h.aT i x),fun i x=>(k.φ i (h.aT i x)).trans (h.φ i x)⟩
theorem Ga.le.at {Γ Γ':Ga} (h:Γ.le Γ') {b:Nat} (hb:Γ.aT b) (o:Nat):Γ'.at b o=Γ.at b o:=by simp [Ga.at,h.φ b hb]
mutual
theorem VR.mono {Γ Γ':Ga} {w w':World} (hg:Γ.le Γ') (hs:eD w w') {v v':Value} (h:VR Γ w v v'):VR Γ' w' v v':=by
 cases h with
 |bool b=>exact .bool b
 |int k n=>exact .int k n
 |float k n=>exact .float k n
 |complex k n m=>exact .complex k n m
 |string s=>exact .string s
 |wN=>exact .wN
 |ptr h=>rw [←hg.at h];exact .ptr (hg.aT _ h)
 |Bu=>exact .Bu
 |slice h hc hl ha=>exact .slice (hg.aT _ h) hc hl (ha.imp (fun x=>⟨x.1,x.2.trans (by rw [hg.φ _ h])⟩) fun x=>x.trans (hg.at h _).symm)
 |dK h hl hr=>exact .dK (hg.aT _ h) hl (hr.imp (fun x=>⟨x.1,x.2.1,x.2.2.trans (by rw [hg.φ _ h])⟩) fun x=>⟨x.1.trans (hg.at h _).symm,x.2.same hs⟩)
 |EC=>exact .EC
 |map h=>rw [←hg.φ _ h];exact .map (hg.aT _ h)
 |Bk=>exact .Bk
 |func hf ha hc=>exact .func hf (ha.mono hg hs) (hc.mono hg hs)
 |yield h=>rw [←hg.φ _ h];exact .yield (hg.aT _ h)
 |nilFunc=>exact .nilFunc
 |iface t h=>exact .iface t (h.mono hg hs)
 |nilIface=>exact .nilIface
 |agg h=>exact .agg (h.mono hg hs)
 |tuple h=>exact .tuple (h.mono hg hs)
 |aO v'=>exact .aO v'
theorem bX.mono {Γ Γ':Ga} {w w':World} (hg:Γ.le Γ') (hs:eD w w') {l l':List Value} (h:bX Γ w l l'):bX Γ' w' l l':=by
 cases h with
 |nil=>exact .nil
 |cons h t=>exact .cons (h.mono hg hs) (t.mono hg hs)
end
section lists
variable {Γ:Ga} {w:World}
theorem bX.length {l l':List Value} (h:bX Γ w l l'):l.length=l'.length:=by
 induction l generalizing l' with
 |nil=>cases h;rfl
 |cons v l ih=>cases h with |cons h t=>simp [ih t]
theorem bX.get {l l':List Value} (h:bX Γ w l l') {i:Nat} {v:Value} (hi:l[i]? =some v):∃ v',l'[i]? =some v'/\VR Γ w v v':=by
 induction l generalizing l' i with
 |nil=>simp at hi
 |cons x l ih=>
  cases h with
  |cons h t=>
   grind
theorem VR.undef:VR Γ w undef undef:= .tuple .nil
theorem bX.getD {l l':List Value} (h:bX Γ w l l') (i:Nat):VR Γ w (l.getD i Go.undef) (l'.getD i Go.undef):=by
 cases hi:l[i]? with
 |some v=>obtain ⟨v',h1,h2⟩:=h.get hi;grind
 |none=>
  have hn:l'[i]? =none:=by
   have:=h.length;simp only [List.getElem?_eq_none_iff] at hi ⊢;omega
  simpa [hi,hn,List.getD_eq_getElem?_getD] using VR.undef
theorem bX.set {l l':List Value} (h:bX Γ w l l') (i:Nat) {v v':Value} (hv:VR Γ w v v'):bX Γ w (l.set i v) (l'.set i v'):=by
 induction l generalizing l' i with
 |nil=>cases h;exact .nil
 |cons x l ih=>
  cases h with
  |cons h t=>
   cases i with
   |zero=>exact .cons hv t
   |succ i=>exact .cons h (ih t i)
theorem bX.append {a a' b b':List Value} (h:bX Γ w a a') (k:bX Γ w b b'):bX Γ w (a++b) (a'++b'):=by
 induction a generalizing a' with
 |nil=>cases h;exact k
 |cons x l ih=>cases h with |cons h t=>exact .cons h (ih t)
theorem bX.take {a a':List Value} (h:bX Γ w a a') (n:Nat):bX Γ w (a.take n) (a'.take n):=by
 induction a generalizing a' n with
 |nil=>cases h;simp;exact .nil
 |cons x l ih=>cases h with |cons h t=>cases n with
  |zero=>exact .nil
  |succ n=>exact .cons h (ih t n)
theorem bX.drop {a a':List Value} (h:bX Γ w a a') (n:Nat):bX Γ w (a.drop n) (a'.drop n):=by
 induction a generalizing a' n with
 |nil=>cases h;simp;exact .nil
 |cons x l ih=>cases h with |cons h t=>cases n with
  |zero=>exact .cons h t
  |succ n=>exact ih t n
theorem bX.replicate (n:Nat) {v v':Value} (h:VR Γ w v v'):bX Γ w (List.replicate n v) (List.replicate n v'):=by
 induction n with
 |zero=>exact .nil
 |succ n ih=>exact .cons h ih
theorem bX.N3 {a a':List Value} (hl:a.length=a'.length) (h:∀ (i:Nat) (v:Value),a[i]? =some v->∃ v':Value,a'[i]? =some v'/\VR Γ w v v'):bX Γ w a a':=by
 induction a generalizing a' with
 |nil=>cases a' with |nil=>exact .nil |cons=>simp at hl
 |cons x l ih=>
  cases a' with
  |nil=>simp at hl
  |cons x' l'=>
   refine .cons ?_ (ih (by grind) fun i v hi=>?_)
   .obtain ⟨v',h1,h2⟩:=h 0 x rfl;grind
   .obtain ⟨v',h1,h2⟩:=h (i+1) v (by simpa using hi);grind
theorem VR.bW {v:Value} (h:aU v=true):VR Γ w v v:=by
 cases v with
 |bool b=>exact .bool b
 |int k n=>exact .int k n
 |float k n=>exact .float k n
 |complex k n m=>exact .complex k n m
 |string s=>exact .string s
 |pointer a=>cases a with |none=>exact .wN |some a=>simp [aU] at h
 |slice a l c=>cases a with
  |none=>simp [aU] at h;obtain ⟨rfl,rfl⟩:=h;exact .Bu
  |some a=>simp [aU] at h
 |map r=>cases r with |none=>exact .EC |some r=>simp [aU] at h
 |chan r=>cases r with |none=>exact .Bk |some r=>simp [aU] at h
 |nilFunc=>exact .nilFunc
 |nilIface=>exact .nilIface
 |func fn a c=>simp [aU] at h
 |iface t v=>simp [aU] at h
 |agg c=>simp [aU] at h
 |tuple c=>simp [aU] at h
theorem bX.bW {l:List Value} (h:l.all aU=true):bX Γ w l l:=by
 induction l with
 |nil=>exact .nil
 |cons x l ih=>simp at h;exact .cons (.bW h.1) (ih (by grind))
theorem VR.iZ {v:Value} (h:free v=true):VR Γ w v v:=by
 cases v with
 |agg c=>exact .agg (.bW h)
 |tuple c=>exact .tuple (.bW h)
 |iface t v=>exact .iface t (.bW h)
 |bool b=>exact .bool b
 |int k n=>exact .int k n
 |float k n=>exact .float k n
 |complex k n m=>exact .complex k n m
 |string s=>exact .string s
 |pointer a=>exact .bW h
 |slice a l c=>exact .bW h
 |map r=>exact .bW h
 |chan r=>exact .bW h
 |nilFunc=>exact .nilFunc
 |nilIface=>exact .nilIface
 |func fn a c=>exact .bW h
theorem VR.da {v v':Value} (h:VR Γ w v v') (hf:aU v=true):v'=v:=by
 cases h<;>first |rfl |simp [aU] at hf
theorem bX.da {l l':List Value} (h:bX Γ w l l') (hf:l.all aU=true):l'=l:=by
 induction l generalizing l' with
 |nil=>cases h;rfl
 |cons x l ih=>cases h with |cons h t=>simp at hf;rw [h.da hf.1,ih t (by grind)]
theorem VR.dY {v v':Value} (h:VR Γ w v v') (hf:free v=true):v'=v:=by
 cases h with
 |agg h=>have:=h.da hf;simp_all
 |tuple h=>have:=h.da hf;simp_all
 |iface t h=>rw [h.da hf]
 |aO=>simp [free,aU] at hf
 |ptr=>simp [free,aU] at hf
 |slice=>simp [free,aU] at hf
 |dK=>simp [free,aU] at hf
 |map=>simp [free,aU] at hf
 |func=>simp [free,aU] at hf
 |yield=>simp [free,aU] at hf
 |_=>rfl
theorem VR.one {v v':Value} (h:VR Γ w v v') (ho:Iv.one v=true):v'.oneCell'=true:=by
 cases h<;>first |rfl |simp [Iv.one] at ho
theorem VR.cells {v v':Value} (h:VR Γ w v v') (ho:v≠Iv.aO):bX Γ w v.cells.toList v'.cells.toList:=by
 cases h with
 |agg h=>exact h
 |aO=>exact absurd rfl ho
 |bool b=>exact .cons (.bool b) .nil
 |int k n=>exact .cons (.int k n) .nil
 |float k n=>exact .cons (.float k n) .nil
 |complex k n m=>exact .cons (.complex k n m) .nil
 |string s=>exact .cons (.string s) .nil
 |wN=>exact .cons .wN .nil
 |ptr h=>exact .cons (.ptr h) .nil
 |Bu=>exact .cons .Bu .nil
 |slice h hc hl ha=>exact .cons (.slice h hc hl ha) .nil
 |dK h hl hr=>exact .cons (.dK h hl hr) .nil
 |EC=>exact .cons .EC .nil
 |map h=>exact .cons (.map h) .nil
 |Bk=>exact .cons .Bk .nil
 |func hf ha hc=>exact .cons (.func hf ha hc) .nil
 |yield h=>exact .cons (.yield h) .nil
 |nilFunc=>exact .cons .nilFunc .nil
 |iface t h=>exact .cons (.iface t h) .nil
 |nilIface=>exact .cons .nilIface .nil
 |tuple h=>exact .cons (.tuple h) .nil
end lists
theorem gM {a b:Nat} (h:a≠b):Nat.beq a b=false:=by
 cases hb:Nat.beq a b with
 |false=>rfl
 |true=>simp_all
theorem uv (l:AL) (d t:Nat) (v:Value):lk (Og l d v) t=if t=d then v else lk l t:=by
 induction l with
 |e=>
  simp only [Og,lk];by_cases h:t=d
  .subst h;simp
  .have:Nat.beq d t=false:=gM fun e=>h e.symm
   grind
 |c k u r ih=>
  simp only [Og];cases hk:Nat.beq k d with
  |true=>
   have e:=Nat.eq_of_beq_eq_true hk;subst e;simp only [zac,lk];by_cases h:t=k
   .subst h;simp
   .have:Nat.beq k t=false:=gM fun e=>h e.symm
    grind
  |false=>
   have hne:k≠d:=Nat.ne_of_beq_eq_false hk;simp only [zab,lk,ih]
   grind
theorem o5 (fi:FI) (E:En) (d t:Nat) (v:Value):ft fi (sH fi d v E) t=if t=d/\d<fi.nt then v else ft fi E t:=by
 have hout:∀ x,cls fi x= .out↔fi.nt<=x:=by
  intro x;unfold cls;cases hb:Nat.ble fi.nt x with
  |true=>simp_all
  |false=>
   have:¬ fi.nt<=x:=fun h=>by rw [Nat.ble_eq_true_of_le h] at hb;cases hb
   grind
 unfold sH;by_cases h:t=d
 .subst h
  unfold ft;cases hc:cls fi t with
  |out=>
   grind
  |loc=>
   have:t<fi.nt:=by
    rcases Nat.lt_or_ge t fi.nt with x |x
    .exact x
    .rw [(hout t).2 x] at hc;cases hc
   simp only [uv,if_true]
   grind
  |tmp=>
   have:t<fi.nt:=by
    rcases Nat.lt_or_ge t fi.nt with x |x
    .exact x
    .rw [(hout t).2 x] at hc;cases hc
   simp only [lk]
   simp_all
 .rw [if_neg (fun x=>h x.1)]
  unfold ft;have hb:Nat.beq d t=false:=gM fun e=>h e.symm
  cases hd:cls fi d<;>cases ht:cls fi t<;>simp [uv,lk,hb,h]
structure TR (Γ:Ga) (w:World) (fi:FI) (E:En) (tm:Array Value):Prop where
 size:tm.size=fi.nt
 get:∀ t,VR Γ w (ft fi E t) (tm.getD t Go.undef)
theorem TR.mono {Γ Γ':Ga} {w w':World} (hg:Γ.le Γ') (hs:eD w w') {fi:FI} {E:En} {tm:Array Value} (h:TR Γ w fi E tm):TR Γ' w' fi E tm:=
 ⟨h.size,fun t=>(h.get t).mono hg hs⟩
theorem TR.set {Γ:Ga} {w:World} {fi:FI} {E:En} {tm:Array Value} (h:TR Γ w fi E tm) (d:Nat) {v v':Value} (hv:VR Γ w v v'):TR Γ w fi (sH fi d v E) (tm.setIfInBounds d v'):=by
 refine ⟨by simp [h.size],fun t=>?_⟩;rw [o5];by_cases hc:t=d/\d<fi.nt
 .rw [if_pos hc]
  obtain ⟨rfl,hlt⟩:=hc;have:t<tm.size:=by rw [h.size];exact hlt
  simp_all
 .rw [if_neg hc]
  have:(tm.setIfInBounds d v').getD t Go.undef=tm.getD t Go.undef:=by
   by_cases e:t=d
   .subst e
    have:tm.size<=t:=by rw [h.size];omega
    grind
   .simp [Array.getD_eq_getD_getElem?,Array.getElem?_setIfInBounds_ne (Ne.symm e)]
  rw [this];exact h.get t
theorem TR.reset {Γ:Ga} {w:World} {fi:FI} {E:En} {tm:Array Value} (h:TR Γ w fi E tm):TR Γ w fi E.reset tm:=by
 refine ⟨h.size,fun t=>?_⟩;have:=h.get t;unfold ft at this ⊢;cases hc:cls fi t with
 |out=>grind
 |loc=>rw [hc] at this;exact this
 |tmp=>exact .aO _
structure Sf (Γ:Ga) (w:World) (b:Nat) (cs:List Value) (e:TypeId) (fz:Nat) (ex sh:Bool) (cs':Array Value) (lo hi:Nat):Prop where
 block:w.heap[(Γ.φ b).1]? =some (.cells cs' e (lo,hi))
 room:(Γ.φ b).2+cs.length<=cs'.size
 cell:∀ i v,cs[i]? =some v->∃ v',cs'[(Γ.φ b).2+i]? =some v'/\VR Γ w v v'
 lM:ex=true->(Γ.φ b).2=0/\cs'.size=cs.length
 frozen:ep<=b->lo<=hi/\∀ j,lo<=j->j<hi->j<(Γ.φ b).2+fz\/(sh=true/\cs'.size<=j)
 Gy:sh=true->(Γ.φ b).2=0
inductive gD (Γ:Ga) (w:World):List MapEntry->List MapEntry->Prop
 |nil:gD Γ w [] []
 |cons {e e':MapEntry} {l l':List MapEntry} (hk:VR Γ w e.key e'.key) (hf:free e.key=true) (hv:VR Γ w e.val e'.val) (hb:e'.born=e.born) (t:gD Γ w l l'):
   gD Γ w (e::l) (e'::l')
def gd (Γ:Ga) (w:World) (b:Nat):bN->Prop
 | .cells cs e fz ex sh=>∃ cs' lo hi,Sf Γ w b cs e fz ex sh cs' lo hi
 | .map es ck=>∃ es',w.heap[(Γ.φ b).1]? =some (.map es' ck)/\gD Γ w es es'.toList
 | .eM s pos=>w.heap[(Γ.φ b).1]? =some (.stringIter s pos)/\(Γ.φ b).2=0
 | .loop st pd fi E ps eo body=>∃ fn tm df,w.heap[(Γ.φ b).1]? =some (.loop { state:=st,pending:=pd,fn,tmps:=tm,params:=ps.toArray,assign:=eo,body,defers:=df })/\TR Γ w fi E tm
 | .mg true=>w.heap[(Γ.φ b).1]? =some (.deferred (some []))
 | .mg false=>w.heap[(Γ.φ b).1]? =some (.deferred none)
structure Rh (Γ:Ga) (H:IH) (w:World):Prop where
 aT:∀ b,Γ.aT b->b<H.n
 ro:ep<=H.n
 cq:∀ g,g<bI->Γ.aT g/\Γ.φ g=(g,0)
 live:∀ b o,H.get b=some o->Γ.aT b
 inj:∀ b b' o o',ep<=b->H.get b=some o->H.get b'=some o'->(Γ.φ b).1=(Γ.φ b').1->b=b'
 obj:∀ b o,H.get b=some o->gd Γ w b o
def Bg (Γ:Ga) (H:IH) (b:Nat):Prop:=∃ i o,ep<=i/\H.get i=some o/\(Γ.φ i).1=b
structure Ext (Γ:Ga) (H:IH) (w:World) (Γ':Ga) (H':IH) (w':World):Prop where
 Cd:H.n<=H'.n
 φ:∀ i,(i<H.n\/H'.n<=i)->Γ'.φ i=Γ.φ i
 aT:∀ i,Γ'.aT i↔(Γ.aT i\/(H.n<=i/\i<H'.n))
 size:w.heap.size<=w'.heap.size
 os:w'.os=w.os
 tape:w'.tape=w.tape
 output:w'.output=w.output
 same:eD w w'
 cE:∀ b,b<w.heap.size->¬ Bg Γ H b->w'.heap[b]? =w.heap[b]?
 oR:∀ b,b<w.heap.size->Bg Γ' H' b->Bg Γ H b
 Od:∀ i,i<ep->∀ o,H'.get i=some o->∃ o',H.get i=some o'
theorem Ext.refl (Γ:Ga) (H:IH) (w:World):Ext Γ H w Γ H w:=
 ⟨zal _,fun _ _=>rfl,fun i=>⟨.inl,fun h=>h.elim id fun h=>by omega⟩,zal _,rfl,rfl,rfl,.refl w,fun _ _ _=>rfl,fun _ _ h=>h,fun _ _ o h=>⟨o,h⟩⟩
theorem Ext.le {Γ:Ga} {H:IH} {w:World} {Γ':Ga} {H':IH} {w':World} (h:Ext Γ H w Γ' H' w') (hr:Rh Γ H w):Γ.le Γ':=
 ⟨fun i hi=>(h.aT i).2 (.inl hi),fun i hi=>h.φ i (.inl (hr.aT i hi))⟩
theorem Ext.trans {Γ Γ' Γ'':Ga} {H H' H'':IH} {w w' w'':World} (h:Ext Γ H w Γ' H' w') (k:Ext Γ' H' w' Γ'' H'' w''):Ext Γ H w Γ'' H'' w'' where
 Cd:=Nat.le_trans h.Cd k.Cd
 φ i hi:=by
  have h1:=h.Cd;have h2:=k.Cd;exact (k.φ i (by omega)).trans (h.φ i (by omega))
 aT i:=by
  have h1:=h.Cd;have h2:=k.Cd;rw [k.aT,h.aT]
  grind
 size:=Nat.le_trans h.size k.size
 os:=k.os.trans h.os
 tape:=k.tape.trans h.tape
 output:=k.output.trans h.output
 same:=h.same.trans k.same
 cE b hb hi:=(k.cE b (Nat.lt_of_lt_of_le hb h.size) fun x=>hi (h.oR b hb x)).trans (h.cE b hb hi)
 oR b hb x:=h.oR b hb (k.oR b (Nat.lt_of_lt_of_le hb h.size) x)
 Od i hi o x:=(k.Od i hi o x).elim fun o1 x1=>h.Od i hi o1 x1
theorem VR.ext {Γ Γ':Ga} {H H':IH} {w w':World} (hr:Rh Γ H w) (h:Ext Γ H w Γ' H' w') {v v':Value} (hv:VR Γ w v v'):VR Γ' w' v v':=hv.mono (h.le hr) h.same
theorem bX.ext {Γ Γ':Ga} {H H':IH} {w w':World} (hr:Rh Γ H w) (h:Ext Γ H w Γ' H' w') {v v':List Value} (hv:bX Γ w v v'):bX Γ' w' v v':=hv.mono (h.le hr) h.same
theorem TR.ext {Γ Γ':Ga} {H H':IH} {w w':World} (hr:Rh Γ H w) (h:Ext Γ H w Γ' H' w') {fi:FI} {E:En} {tm:Array Value} (hv:TR Γ w fi E tm):TR Γ' w' fi E tm:=hv.mono (h.le hr) h.same
theorem gD.mono {Γ Γ':Ga} {w w':World} (hg:Γ.le Γ') (hs:eD w w') {l l':List MapEntry} (h:gD Γ w l l'):gD Γ' w' l l':=by
 induction h with
 |nil=>exact .nil
 |cons hk hf hv hb _ ih=>exact .cons (hk.mono hg hs) hf (hv.mono hg hs) hb ih
theorem gd.mono {Γ Γ':Ga} {w w':World} (hg:Γ.le Γ') (hs:eD w w') {b:Nat} {o:bN} (hd:Γ.aT b) (hb:w'.heap[(Γ.φ b).1]? =w.heap[(Γ.φ b).1]?) (h:gd Γ w b o):gd Γ' w' b o:=by
 have e:=hg.φ b hd;cases o with
 |cells cs el fz ex sh=>
  obtain ⟨cs',lo,hi,hc⟩:=h;exact ⟨cs',lo,hi,by rw [e,hb];exact hc.block,by rw [e];exact hc.room,fun i v hv=>by
   obtain ⟨v',h1,h2⟩:=hc.cell i v hv;exact ⟨v',by grind,h2.mono hg hs⟩,by rw [e];exact hc.lM,by rw [e];exact hc.frozen,by rw [e];exact hc.Gy⟩
 |map es ck=>obtain ⟨es',h1,h2⟩:=h;exact ⟨es',by grind,h2.mono hg hs⟩
 |eM s pos=>unfold gd at h ⊢;grind
 |loop st pd fi E ps eo body=>obtain ⟨fn,tm,df,h1,h2⟩:=h;exact ⟨fn,tm,df,by grind,h2.mono hg hs⟩
 |mg x=>cases x<;>(unfold gd at h ⊢;grind)
theorem Rh.lt {Γ:Ga} {H:IH} {w:World} (h:Rh Γ H w) {b:Nat} {o:bN} (hb:H.get b=some o):(Γ.φ b).1<w.heap.size:=by
 have ho:=h.obj b o hb;have key:∀ x,w.heap[(Γ.φ b).1]? =some x->(Γ.φ b).1<w.heap.size:=fun x hx=>(Array.getElem?_eq_some_iff.1 hx).1
 cases o with
 |cells cs e fz ex sh=>obtain ⟨cs',lo,hi,hc⟩:=ho;exact key _ hc.block
 |map es ck=>obtain ⟨es',h1,_⟩:=ho;grind
 |eM s pos=>exact key _ ho.1
 |loop st pd fi E ps eo body=>obtain ⟨fn,tm,df,h1,_⟩:=ho;grind
 |mg x=>cases x<;>exact key _ ho
theorem Rh.drew {Γ:Ga} {H:IH} {w:World} (h:Rh Γ H w):Rh Γ H w.drew/\Ext Γ H w Γ H w.drew:=by
 have hs:eD w w.drew:=fun b cs e f hb=>⟨cs,f,hb,rfl⟩
 refine ⟨⟨h.aT,h.ro,h.cq,h.live,h.inj,fun b o hb=>(h.obj b o hb).mono (.refl Γ) hs (h.live b o hb) rfl⟩,?_⟩;exact ⟨zal _,fun _ _=>rfl,fun i=>⟨.inl,fun x=>x.elim id fun x=>by omega⟩,zal _,rfl,rfl,rfl,hs,fun _ _ _=>rfl,fun _ _ x=>x,fun _ _ o x=>⟨o,x⟩⟩
def Ga.next (Γ:Ga) (n:Nat) (p:Nat×Nat):Ga:={ φ:=fun i=>if i=n then p else Γ.φ i,aT:=fun i=>Γ.aT i\/i=n }
theorem Ga.le_next {Γ:Ga} {n:Nat} {p:Nat×Nat} (h:¬ Γ.aT n):Γ.le (Γ.next n p):=
 ⟨fun _ x=> .inl x,fun i x=>by simp only [Ga.next];grind⟩
@[simp] theorem Ga.bh (Γ:Ga) (n:Nat) (p:Nat×Nat):(Γ.next n p).φ n=p:=by simp [Ga.next]
theorem heap_alloc_old {w:World} {o:Obj} {b:Nat} (h:b<w.heap.size):(w.alloc o).heap[b]? =w.heap[b]? :=by
 simp only [World.alloc];grind
theorem heap_alloc_new {w:World} {o:Obj}:(w.alloc o).heap[w.heap.size]? =some o:=(MapKept.heap_alloc w o).1
theorem eD.alloc (w:World) (o:Obj):eD w (w.alloc o):=fun _ cs _ f hb=>
 ⟨cs,f,(heap_alloc_old (Array.getElem?_eq_some_iff.1 hb).1).trans hb,rfl⟩
theorem Rh.new {Γ:Ga} {H:IH} {w:World} (h:Rh Γ H w) (o:bN) (o':Obj)
  (ho:gd (Γ.next H.n (w.heap.size,0)) (w.alloc o') H.n o):
  Rh (Γ.next H.n (w.heap.size,0)) (H.new o) (w.alloc o')/\Ext Γ H w (Γ.next H.n (w.heap.size,0)) (H.new o) (w.alloc o'):=by
 have hn:¬ Γ.aT H.n:=fun x=>by have:=h.aT _ x;omega
 have hle:=Ga.le_next (p:=(w.heap.size,0)) hn;have hφ:∀ b,H.get b≠none->b≠H.n:=by
  rintro b hb rfl;cases hx:H.get H.n with
  |none=>exact hb hx
  |some x=>have:=h.aT _ (h.live _ _ hx);omega
 have hold:∀ b x,H.get b=some x->((Γ.next H.n (w.heap.size,0)).φ b)=Γ.φ b:=fun b x hb=>hle.φ b (h.live b x hb)
 constructor
 .refine ⟨?_,by have:=h.ro;simp;omega,fun g hg=>⟨.inl (h.cq g hg).1,(hle.φ g (h.cq g hg).1).trans (h.cq g hg).2⟩,?_,?_,?_⟩
  .rintro b (hb |rfl)
   .have:=h.aT b hb;simp;omega
   .simp
  .intro b x hb
   rw [IH.ay] at hb;by_cases e:b=H.n
   .exact .inr e
   .rw [if_neg e] at hb;exact .inl (h.live b x hb)
  .intro b b' x x' hro hb hb' e
   rw [IH.ay] at hb hb';by_cases e1:b=H.n<;>by_cases e2:b'=H.n
   .rw [e1,e2]
   .rw [if_neg e2] at hb'
    subst e1;rw [Ga.bh,hold b' _ hb'] at e;have:=h.lt hb';omega
   .rw [if_neg e1] at hb
    subst e2;rw [Ga.bh,hold b _ hb] at e;have:=h.lt hb;omega
   .rw [if_neg e1] at hb
    rw [if_neg e2] at hb';rw [hold b _ hb,hold b' _ hb'] at e;exact h.inj b b' x x' hro hb hb' e
  .intro b x hb
   rw [IH.ay] at hb;by_cases e:b=H.n
   .grind
   .rw [if_neg e] at hb
    exact (h.obj b x hb).mono hle (.alloc w o') (h.live b x hb) (heap_alloc_old (h.lt hb))
 .refine ⟨by simp,?_,?_,by simp,rfl,rfl,rfl,.alloc w o',fun b hb _=>heap_alloc_old hb,?_,fun i hi x hx=>⟨x,by rw [IH.ay,if_neg (by have:=h.ro;omega)] at hx;exact hx⟩⟩
  .intro i hi
   simp only [Ga.next];rw [if_neg];rintro rfl;simp at hi;omega
  .intro i
   simp only [Ga.next,IH.LX]
   grind
  .rintro b hb ⟨i,x,hi,hx,e⟩
   rw [IH.ay] at hx;by_cases e1:i=H.n
   .simp_all
   .rw [if_neg e1] at hx
    exact ⟨i,x,hi,hx,by grind⟩
theorem Rh.gS {Γ:Ga} {H:IH} {w w':World} (h:Rh Γ H w) {b:Nat} {o:bN} (o':bN) (hb:H.get b=some o) (hro:ep<=b) (hsz:w'.heap.size=w.heap.size)
  (hos:w'.os=w.os) (htp:w'.tape=w.tape) (hout:w'.output=w.output) (hs:eD w w') (hk:∀ x,x≠(Γ.φ b).1->w'.heap[x]? =w.heap[x]?)
  (ho:gd Γ w' b o'):Rh Γ (H.put b o') w'/\Ext Γ H w Γ (H.put b o') w':=by
 have himg:∀ x,Bg Γ (H.put b o') x->Bg Γ H x:=by
  rintro x ⟨i,y,hi,hy,e⟩;rw [IH.ag] at hy;by_cases e1:i=b
  .subst e1;exact ⟨i,o,hi,hb,e⟩
  .rw [if_neg e1] at hy;exact ⟨i,y,hi,hy,e⟩
 have hlive:∀ x y,(H.put b o').get x=some y->∃ z,H.get x=some z:=by
  intro x y hx;rw [IH.ag] at hx;by_cases e1:x=b
  .grind
  .grind
 constructor
 .refine ⟨h.aT,h.ro,h.cq,fun x y hx=>?_,fun x x' y y' hro' hx hx' e=>?_,fun x y hx=>?_⟩
  .obtain ⟨z,hz⟩:=hlive x y hx;exact h.live x z hz
  .obtain ⟨z,hz⟩:=hlive x y hx
   obtain ⟨z',hz'⟩:=hlive x' y' hx';exact h.inj x x' z z' hro' hz hz' e
  .have hx0:=hx
   rw [IH.ag] at hx;by_cases e1:x=b
   .grind
   .rw [if_neg e1] at hx
    exact (h.obj x y hx).mono (.refl Γ) hs (h.live x y hx) (hk _ fun e=>e1 (h.inj b x o y hro hb hx e.symm).symm)
 .exact ⟨zal _,fun _ _=>rfl,fun i=>⟨.inl,fun x=>x.elim id fun x=>by have:=x.1;have:=x.2;simp at this;omega⟩,Nat.le_of_eq hsz.symm,hos,htp,hout,hs,
   fun x _ hx=>hk x fun e=>hx ⟨b,o,hro,hb,e.symm⟩,fun x _ hx=>himg x hx,fun i _ y hy=>hlive i y hy⟩
theorem Rh.del {Γ:Ga} {H:IH} {w:World} (h:Rh Γ H w) (b:Nat):Rh Γ (H.del b) w/\Ext Γ H w Γ (H.del b) w:=by
 have hlive:∀ x y,(H.del b).get x=some y->H.get x=some y:=by
  intro x y hx;rw [IH.cf] at hx;by_cases e1:x=b
  .grind
  .grind
 constructor
 .exact ⟨h.aT,h.ro,h.cq,fun x y hx=>h.live x y (hlive x y hx),fun x x' y y' hro hx hx' e=>h.inj x x' y y' hro (hlive x y hx) (hlive x' y' hx') e,fun x y hx=>h.obj x y (hlive x y hx)⟩
 .exact ⟨zal _,fun _ _=>rfl,fun i=>⟨.inl,fun x=>x.elim id fun x=>by have:=x.1;have:=x.2;simp at this;omega⟩,zal _,rfl,rfl,rfl,.refl w,fun _ _ _=>rfl,
   fun x _ ⟨i,y,hi,hy,e⟩=>⟨i,y,hi,hlive i y hy,e⟩,fun i _ y hy=>⟨y,hlive i y hy⟩⟩
theorem Rh.take {Γ:Ga} {H:IH} {w w':World} (h:Rh Γ H w) (o:bN) (p:Nat×Nat) (hp:∀ i x,H.get i=some x->(Γ.φ i).1≠p.1)
  (hs:eD w w') (hk:∀ x,x≠p.1->w'.heap[x]? =w.heap[x]?)
  (ho:gd (Γ.next H.n p) w' H.n o):
  Rh (Γ.next H.n p) (H.new o) w'/\(∀ i,(i<H.n\/H.n+1<=i)->(Γ.next H.n p).φ i=Γ.φ i)/\Γ.le (Γ.next H.n p):=by
 have hn:¬ Γ.aT H.n:=fun x=>by have:=h.aT _ x;omega
 have hle:=Ga.le_next (p:=p) hn;have hold:∀ b x,H.get b=some x->((Γ.next H.n p).φ b)=Γ.φ b:=fun b x hb=>hle.φ b (h.live b x hb)
 refine ⟨⟨?_,by have:=h.ro;simp;omega,fun g hg=>⟨.inl (h.cq g hg).1,(hle.φ g (h.cq g hg).1).trans (h.cq g hg).2⟩,?_,?_,?_⟩,?_,hle⟩
 .rintro b (hb |rfl)
  .have:=h.aT b hb;simp;omega
  .simp
 .intro b x hb
  rw [IH.ay] at hb;by_cases e:b=H.n
  .exact .inr e
  .rw [if_neg e] at hb;exact .inl (h.live b x hb)
 .intro b b' x x' hro hb hb' e
  rw [IH.ay] at hb hb';by_cases e1:b=H.n<;>by_cases e2:b'=H.n
  .rw [e1,e2]
  .rw [if_neg e2] at hb'
   subst e1;rw [Ga.bh,hold b' _ hb'] at e
   grind
  .simp_all
  .rw [if_neg e1] at hb
   rw [if_neg e2] at hb';rw [hold b _ hb,hold b' _ hb'] at e;exact h.inj b b' x x' hro hb hb' e
 .intro b x hb
  rw [IH.ay] at hb;by_cases e:b=H.n
  .grind
  .rw [if_neg e] at hb
   exact (h.obj b x hb).mono hle hs (h.live b x hb) (hk _ (hp b x hb))
 .intro i hi
  simp only [Ga.next]
  grind
theorem Rh.bf {Γ:Ga} {H:IH} {w:World} (h:Rh Γ H w) {b off n:Nat} {cs:List Value} (hc:H.bf b off n=some cs):
  ∃ cs':List Value,bX Γ w cs cs'/\cs'.length=n/\∀ j v,cs'[j]? =some v->w.cell? ((Γ.at b off).add j)=some v:=by
 unfold IH.bf at hc;split at hc
 .rename_i l e fz ex sh hb
  split at hc
  .rename_i hle
   simp only [Option.some.injEq] at hc;subst hc;obtain ⟨cs',lo,hi,hr⟩:=h.obj b _ hb;refine ⟨((cs'.toList.drop ((Γ.φ b).2+off)).take n),.N3 ?_ ?_,?_,?_⟩
   .have:=hr.room;simp;omega
   .intro i v hv
    have hi':i<n:=by
     rcases Nat.lt_or_ge i n with x |x
     .exact x
     .rw [List.getElem?_eq_none (by simp;omega)] at hv;cases hv
    rw [List.getElem?_take_of_lt hi',List.getElem?_drop] at hv;obtain ⟨v',h1,h2⟩:=hr.cell _ _ hv
    grind
   .have:=hr.room;simp;omega
   .intro j v hv
    have hj:j<n:=by
     rcases Nat.lt_or_ge j n with x |x
     .exact x
     .rw [List.getElem?_eq_none (by simp;omega)] at hv;cases hv
    rw [List.getElem?_take_of_lt hj,List.getElem?_drop,Array.getElem?_toList] at hv;have e:(Γ.at b off).add j=⟨(Γ.φ b).1,(Γ.φ b).2+off+j,none⟩:=by
     simp only [Ga.at,Addr.add];split<;>simp_all
    rw [e];simp only [World.cell?,hr.block]
    grind
  .cases hc
 .cases hc
end Go.Iv
