/- The relation between the ideal heap and a world of the model, and how it goes on through new blocks, stores and appends. -/
import Derived.Test.YtdelfjdjenlaiaaGreatDoorIvBase
import Derived.WalkKit
set_option linter.unusedSimpArgs false
set_option linter.unusedVariables false
namespace Go.Iv
open Go
theorem Tr.PW {α:Type} (v:Option α):∀ (f:Nat) (t:Tr α) (n k:Nat),n<f->(Tr.fU v f t n).get k=if k=n then v else t.get k:=by
 intro f
 induction f with
 |zero=>intro t n k h;omega
 |succ f ih=>
  intro t n k h;have far:∀ (j m:Nat) (a b:Option α),¬ j=m->(if j+1=m+1 then a else b)=b:=fun j m a b e=>if_neg (by omega)
  have near:∀ (j m:Nat) (a b:Option α),j%2=m%2->(if j / 2=m / 2 then a else b)=if j+1=m+1 then a else b:=fun j m a b e=>by
   by_cases x:j / 2=m / 2
   ·rw [if_pos x,if_pos (by omega)]
   ·rw [if_neg x,if_neg (by omega)]
  cases t with
  |nil=>
   cases n with
   |zero=>
    simp only [Tr.fU];cases k with
    |zero=>simp [Tr.get]
    |succ m=>simp only [Tr.get];split<;>simp
   |succ m=>
    have hm:m / 2<f:=by omega
    cases k with
    |zero=>simp only [Tr.fU];split<;>simp [Tr.get]
    |succ j=>
     rcases Nat.mod_two_eq_zero_or_one m with hm2 |hm2<;>rcases Nat.mod_two_eq_zero_or_one j with hj |hj
     ·simp only [Tr.fU,Tr.get,hm2,hj];rw [ih _ _ _ hm,near _ _ _ _ (hj.trans hm2.symm)];simp [Tr.get]
     ·simp only [Tr.fU,Tr.get,hm2,hj];rw [far _ _ _ _ (by rintro rfl;omega)]
     ·simp only [Tr.fU,Tr.get,hm2,hj];rw [far _ _ _ _ (by rintro rfl;omega)]
     ·simp only [Tr.fU,Tr.get,hm2,hj];rw [ih _ _ _ hm,near _ _ _ _ (hj.trans hm2.symm)];simp [Tr.get]
  |node l x r=>
   cases n with
   |zero=>
    simp only [Tr.fU];cases k with
    |zero=>simp [Tr.get]
    |succ m=>simp [Tr.get]
   |succ m=>
    have hm:m / 2<f:=by omega
    cases k with
    |zero=>simp only [Tr.fU];split<;>simp [Tr.get]
    |succ j=>
     rcases Nat.mod_two_eq_zero_or_one m with hm2 |hm2<;>rcases Nat.mod_two_eq_zero_or_one j with hj |hj
     ·simp only [Tr.fU,Tr.get,hm2,hj];rw [ih _ _ _ hm,near _ _ _ _ (hj.trans hm2.symm)]
     ·simp only [Tr.fU,Tr.get,hm2,hj];rw [far _ _ _ _ (by rintro rfl;omega)]
     ·simp only [Tr.fU,Tr.get,hm2,hj];rw [far _ _ _ _ (by rintro rfl;omega)]
     ·simp only [Tr.fU,Tr.get,hm2,hj];rw [ih _ _ _ hm,near _ _ _ _ (hj.trans hm2.symm)]
theorem Tr.ah {α:Type} (t:Tr α) (n:Nat) (v:Option α) (k:Nat):(t.put n v).get k=if k=n then v else t.get k:=
 Tr.PW v (n+1) t n k (by omega)
theorem Tr.Mr {α:Type} (v v':Option α):∀ (f:Nat) (t:Tr α) (n:Nat),Tr.fU v' f (Tr.fU v f t n) n=Tr.fU v' f t n:=by
 intro f
 induction f with
 |zero=>intro t n;rfl
 |succ f ih=>
  intro t n;cases t with
  |nil=>
   cases n with
   |zero=>simp [Tr.fU]
   |succ m=>rcases Nat.mod_two_eq_zero_or_one m with h |h<;>simp [Tr.fU,h,ih]
  |node l x r=>
   cases n with
   |zero=>simp [Tr.fU]
   |succ m=>rcases Nat.mod_two_eq_zero_or_one m with h |h<;>simp [Tr.fU,h,ih]
theorem IH.L3 (H:IH) (o o':bA):(H.new o).put H.n o'=H.new o':=by
 simp only [IH.new,IH.put,Tr.eV,Tr.Mr]
theorem Vt (b:Nat):kx b=if dO<=b then 2*(b - dO)+1 else 2*b:=by
 unfold kx;cases h:Nat.ble dO b with
 |true=>rw [if_pos (Nat.le_of_ble_eq_true h)];rfl
 |false=>
  rw [if_neg (fun x=>by rw [Nat.ble_eq_true_of_le x] at h;cases h)];rfl
theorem Wu {a b:Nat} (h:kx a=kx b):a=b:=by
 rw [Vt,Vt] at h;split at h<;>split at h<;>omega
theorem BI {α:Type} (a b:Nat) (x y:α):(if kx a=kx b then x else y)=if a=b then x else y:=by
 by_cases h:a=b
 ·subst h;simp
 ·rw [if_neg h,if_neg fun e=>h (Wu e)]
theorem IH.get_eq (H:IH) (b:Nat):H.get b=H.t.get (kx b):=Tr.fN H.t (kx b)
theorem IH.ah (H:IH) (b:Nat) (o:bA) (k:Nat):(H.put b o).get k=if k=b then some o else H.get k:=by
 rw [IH.get_eq,IH.get_eq];simp only [IH.put,Tr.eV];exact (Tr.ah _ _ _ _).trans (BI ..)
theorem IH.cO (H:IH) (b:Nat) (k:Nat):(H.del b).get k=if k=b then none else H.get k:=by
 rw [IH.get_eq,IH.get_eq];simp only [IH.del,Tr.eV];exact (Tr.ah _ _ _ _).trans (BI ..)
theorem IH.az (H:IH) (o:bA) (k:Nat):(H.new o).get k=if k=H.n then some o else H.get k:=by
 rw [IH.get_eq,IH.get_eq];simp only [IH.new,Tr.eV];exact (Tr.ah _ _ _ _).trans (BI ..)
@[simp] theorem IH.UU (H:IH) (b:Nat) (o:bA):(H.put b o).n=H.n:=rfl
@[simp] theorem IH.W7 (H:IH) (b:Nat):(H.del b).n=H.n:=rfl
@[simp] theorem IH.Qb (H:IH) (o:bA):(H.new o).n=H.n+1:=rfl
structure Ga where
 φ:Nat->Nat×Nat
 bj:Nat->Prop
def Room (w:World) (a:Addr) (n:Nat):Prop:=∃ cs e f,w.heap[a.block]? =some (.cells cs e f)/\a.off+n<=cs.size
def Ga.at (Γ:Ga) (b o:Nat):Addr:=⟨(Γ.φ b).1,(Γ.φ b).2+o,none⟩
mutual
inductive VR (Γ:Ga) (w:World):Value->Value->Prop
 |bool (b:Bool):VR Γ w (.bool b) (.bool b)
 |int (k:IntKind) (n:Int):VR Γ w (.int k n) (.int k n)
 |float (k:FloatKind) (n:Nat):VR Γ w (.float k n) (.float k n)
 |complex (k:FloatKind) (n m:Nat):VR Γ w (.complex k n m) (.complex k n m)
 |string (s:ByteArray):VR Γ w (.string s) (.string s)
 |yR:VR Γ w (.pointer none) (.pointer none)
 |ptr {b o:Nat} (h:Γ.bj b):VR Γ w (.pointer (some ⟨b,o,none⟩)) (.pointer (some (Γ.at b o)))
 |Dl:VR Γ w (.slice none 0 0) (.slice none 0 0)
 |slice {b o l c:Nat} {a:Addr} (h:Γ.bj b) (hc:c<eE) (hl:l<=c) (ha:(c=0/\a.block=(Γ.φ b).1)∨a=Γ.at b o):VR Γ w (.slice (some ⟨b,o,none⟩) l c) (.slice (some a) l c)
 |dV {b o l s c:Nat} {a:Addr} (h:Γ.bj b) (hl:l<=c) (hr:(c=0/\l=0/\a.block=(Γ.φ b).1)∨(a=Γ.at b o/\Room w a (c*s))):
   VR Γ w (.slice (some ⟨b,o,none⟩) l (eE+s)) (.slice (some a) l c)
 |Js:VR Γ w (.map none) (.map none)
 |map {r:Nat} (h:Γ.bj r):VR Γ w (.map (some r)) (.map (some (Γ.φ r).1))
 |DX:VR Γ w (.chan none) (.chan none)
 |func {fn:Fn} {a c a' c':Array Value} (hf:eU fn=true) (ha:cB Γ w a.toList a'.toList) (hc:cB Γ w c.toList c'.toList):
   VR Γ w (.func fn a c) (.func fn a' c')
 |yield {l:Nat} (h:Γ.bj l):VR Γ w (.func (.yield l) #[] #[]) (.func (.yield (Γ.φ l).1) #[] #[])
 |nilFunc:VR Γ w .nilFunc .nilFunc
 |iface (t:TypeId) {v v':Value} (h:VR Γ w v v'):VR Γ w (.iface t v) (.iface t v')
 |nilIface:VR Γ w .nilIface .nilIface
 |agg {a a':Array Value} (h:cB Γ w a.toList a'.toList):VR Γ w (.agg a) (.agg a')
 |tuple {a a':Array Value} (h:cB Γ w a.toList a'.toList):VR Γ w (.tuple a) (.tuple a')
 |aS (v':Value):VR Γ w (.chan (some 0)) v'
inductive cB (Γ:Ga) (w:World):List Value->List Value->Prop
 |nil:cB Γ w [] []
 |cons {v v':Value} {l l':List Value} (h:VR Γ w v v') (t:cB Γ w l l'):cB Γ w (v::l) (v'::l')
end
def eN (w w':World):Prop:=∀ (b:Nat) (cs:Array Value) (e:TypeId) (f:Nat×Nat),w.heap[b]? =some (.cells cs e f)->
 ∃ (cs':Array Value) (f':Nat×Nat),w'.heap[b]? =some (.cells cs' e f')/\cs'.size=cs.size
theorem eN.refl (w:World):eN w w:=fun _ cs _ f h=>⟨cs,f,h,rfl⟩
theorem eN.trans {a b c:World} (h:eN a b) (k:eN b c):eN a c:=fun x cs e f hx=>by
 obtain ⟨cs1,f1,h1,s1⟩:=h x cs e f hx;obtain ⟨cs2,f2,h2,s2⟩:=k x cs1 e f1 h1;exact ⟨cs2,f2,h2,s2.trans s1⟩
theorem Room.same {w w':World} {a:Addr} {n:Nat} (h:Room w a n) (hs:eN w w'):Room w' a n:=by
 obtain ⟨cs,e,f,h1,h2⟩:=h;obtain ⟨cs',f',h3,h4⟩:=hs _ _ _ _ h1;exact ⟨cs',e,f',h3,by omega⟩
structure Ga.le (Γ Γ':Ga):Prop where
 bj:∀ i,Γ.bj i->Γ'.bj i
 φ:∀ i,Γ.bj i->Γ'.φ i=Γ.φ i
theorem Ga.le.refl (Γ:Ga):Γ.le Γ:=⟨fun _ h=>h,fun _ _=>rfl⟩
theorem Ga.le.trans {a b c:Ga} (h:a.le b) (k:b.le c):a.le c:=⟨fun i x=>k.bj i (h.bj i x),fun i x=>(k.φ i (h.bj i x)).trans (h.φ i x)⟩
theorem Ga.le.at {Γ Γ':Ga} (h:Γ.le Γ') {b:Nat} (hb:Γ.bj b) (o:Nat):Γ'.at b o=Γ.at b o:=by simp [Ga.at,h.φ b hb]
mutual
theorem VR.mono {Γ Γ':Ga} {w w':World} (hg:Γ.le Γ') (hs:eN w w') {v v':Value} (h:VR Γ w v v'):VR Γ' w' v v':=by
 cases h with
 |bool b=>exact .bool b
 |int k n=>exact .int k n
 |float k n=>exact .float k n
 |complex k n m=>exact .complex k n m
 |string s=>exact .string s
 |yR=>exact .yR
 |ptr h=>rw [←hg.at h];exact .ptr (hg.bj _ h)
 |Dl=>exact .Dl
 |slice h hc hl ha=>exact .slice (hg.bj _ h) hc hl (ha.imp (fun x=>⟨x.1,x.2.trans (by rw [hg.φ _ h])⟩) fun x=>x.trans (hg.at h _).symm)
 |dV h hl hr=>exact .dV (hg.bj _ h) hl (hr.imp (fun x=>⟨x.1,x.2.1,x.2.2.trans (by rw [hg.φ _ h])⟩) fun x=>⟨x.1.trans (hg.at h _).symm,x.2.same hs⟩)
 |Js=>exact .Js
 |map h=>rw [←hg.φ _ h];exact .map (hg.bj _ h)
 |DX=>exact .DX
 |func hf ha hc=>exact .func hf (ha.mono hg hs) (hc.mono hg hs)
 |yield h=>rw [←hg.φ _ h];exact .yield (hg.bj _ h)
 |nilFunc=>exact .nilFunc
 |iface t h=>exact .iface t (h.mono hg hs)
 |nilIface=>exact .nilIface
 |agg h=>exact .agg (h.mono hg hs)
 |tuple h=>exact .tuple (h.mono hg hs)
 |aS v'=>exact .aS v'
theorem cB.mono {Γ Γ':Ga} {w w':World} (hg:Γ.le Γ') (hs:eN w w') {l l':List Value} (h:cB Γ w l l'):cB Γ' w' l l':=by
 cases h with
 |nil=>exact .nil
 |cons h t=>exact .cons (h.mono hg hs) (t.mono hg hs)
end
section lists
variable {Γ:Ga} {w:World}
theorem cB.length {l l':List Value} (h:cB Γ w l l'):l.length=l'.length:=by
 induction l generalizing l' with
 |nil=>cases h;rfl
 |cons v l ih=>cases h with |cons h t=>simp [ih t]
theorem cB.get {l l':List Value} (h:cB Γ w l l') {i:Nat} {v:Value} (hi:l[i]? =some v):∃ v',l'[i]? =some v'/\VR Γ w v v':=by
 induction l generalizing l' i with
 |nil=>simp at hi
 |cons x l ih=>
  cases h with
  |cons h t=>
   cases i with
   |zero=>simp at hi;subst hi;exact ⟨_,by simp,h⟩
   |succ i=>simp at hi;obtain ⟨v',h1,h2⟩:=ih t hi;exact ⟨v',by simpa using h1,h2⟩
theorem VR.undef:VR Γ w undef undef:= .tuple .nil
theorem cB.getD {l l':List Value} (h:cB Γ w l l') (i:Nat):VR Γ w (l.getD i Go.undef) (l'.getD i Go.undef):=by
 cases hi:l[i]? with
 |some v=>obtain ⟨v',h1,h2⟩:=h.get hi;simpa [hi,h1,List.getD_eq_getElem?_getD] using h2
 |none=>
  have hn:l'[i]? =none:=by
   have:=h.length;simp only [List.getElem?_eq_none_iff] at hi ⊢;omega
  simpa [hi,hn,List.getD_eq_getElem?_getD] using VR.undef
theorem cB.set {l l':List Value} (h:cB Γ w l l') (i:Nat) {v v':Value} (hv:VR Γ w v v'):cB Γ w (l.set i v) (l'.set i v'):=by
 induction l generalizing l' i with
 |nil=>cases h;exact .nil
 |cons x l ih=>
  cases h with
  |cons h t=>
   cases i with
   |zero=>exact .cons hv t
   |succ i=>exact .cons h (ih t i)
theorem cB.append {a a' b b':List Value} (h:cB Γ w a a') (k:cB Γ w b b'):cB Γ w (a++b) (a'++b'):=by
 induction a generalizing a' with
 |nil=>cases h;exact k
 |cons x l ih=>cases h with |cons h t=>exact .cons h (ih t)
theorem cB.take {a a':List Value} (h:cB Γ w a a') (n:Nat):cB Γ w (a.take n) (a'.take n):=by
 induction a generalizing a' n with
 |nil=>cases h;simp;exact .nil
 |cons x l ih=>cases h with |cons h t=>cases n with
  |zero=>exact .nil
  |succ n=>exact .cons h (ih t n)
theorem cB.drop {a a':List Value} (h:cB Γ w a a') (n:Nat):cB Γ w (a.drop n) (a'.drop n):=by
 induction a generalizing a' n with
 |nil=>cases h;simp;exact .nil
 |cons x l ih=>cases h with |cons h t=>cases n with
  |zero=>exact .cons h t
  |succ n=>exact ih t n
theorem cB.replicate (n:Nat) {v v':Value} (h:VR Γ w v v'):cB Γ w (List.replicate n v) (List.replicate n v'):=by
 induction n with
 |zero=>exact .nil
 |succ n ih=>exact .cons h ih
theorem cB.PU {a a':List Value} (hl:a.length=a'.length) (h:∀ (i:Nat) (v:Value),a[i]? =some v->∃ v':Value,a'[i]? =some v'/\VR Γ w v v'):cB Γ w a a':=by
 induction a generalizing a' with
 |nil=>cases a' with |nil=>exact .nil |cons=>simp at hl
 |cons x l ih=>
  cases a' with
  |nil=>simp at hl
  |cons x' l'=>
   refine .cons ?_ (ih (by simpa using hl) fun i v hi=>?_)
   ·obtain ⟨v',h1,h2⟩:=h 0 x rfl;simp at h1;subst h1;exact h2
   ·obtain ⟨v',h1,h2⟩:=h (i+1) v (by simpa using hi);exact ⟨v',by simpa using h1,h2⟩
theorem VR.cu {v:Value} (h:aV v=true):VR Γ w v v:=by
 cases v with
 |bool b=>exact .bool b
 |int k n=>exact .int k n
 |float k n=>exact .float k n
 |complex k n m=>exact .complex k n m
 |string s=>exact .string s
 |pointer a=>cases a with |none=>exact .yR |some a=>simp [aV] at h
 |slice a l c=>cases a with
  |none=>simp [aV] at h;obtain ⟨rfl,rfl⟩:=h;exact .Dl
  |some a=>simp [aV] at h
 |map r=>cases r with |none=>exact .Js |some r=>simp [aV] at h
 |chan r=>cases r with |none=>exact .DX |some r=>simp [aV] at h
 |nilFunc=>exact .nilFunc
 |nilIface=>exact .nilIface
 |func fn a c=>simp [aV] at h
 |iface t v=>simp [aV] at h
 |agg c=>simp [aV] at h
 |tuple c=>simp [aV] at h
theorem cB.cu {l:List Value} (h:l.all aV=true):cB Γ w l l:=by
 induction l with
 |nil=>exact .nil
 |cons x l ih=>simp at h;exact .cons (.cu h.1) (ih (by simpa using h.2))
theorem VR.jk {v:Value} (h:free v=true):VR Γ w v v:=by
 cases v with
 |agg c=>exact .agg (.cu h)
 |tuple c=>exact .tuple (.cu h)
 |iface t v=>exact .iface t (.cu h)
 |bool b=>exact .bool b
 |int k n=>exact .int k n
 |float k n=>exact .float k n
 |complex k n m=>exact .complex k n m
 |string s=>exact .string s
 |pointer a=>exact .cu h
 |slice a l c=>exact .cu h
 |map r=>exact .cu h
 |chan r=>exact .cu h
 |nilFunc=>exact .nilFunc
 |nilIface=>exact .nilIface
 |func fn a c=>exact .cu h
theorem VR.dt {v v':Value} (h:VR Γ w v v') (hf:aV v=true):v'=v:=by
 cases h<;>first |rfl |simp [aV] at hf
theorem cB.dt {l l':List Value} (h:cB Γ w l l') (hf:l.all aV=true):l'=l:=by
 induction l generalizing l' with
 |nil=>cases h;rfl
 |cons x l ih=>cases h with |cons h t=>simp at hf;rw [h.dt hf.1,ih t (by simpa using hf.2)]
theorem VR.ec {v v':Value} (h:VR Γ w v v') (hf:free v=true):v'=v:=by
 cases h with
 |agg h=>have:=h.dt hf;rw [show (_:Array Value)=_ from Array.toList_inj.1 this]
 |tuple h=>have:=h.dt hf;rw [show (_:Array Value)=_ from Array.toList_inj.1 this]
 |iface t h=>rw [h.dt hf]
 |aS=>simp [free,aV] at hf
 |ptr=>simp [free,aV] at hf
 |slice=>simp [free,aV] at hf
 |dV=>simp [free,aV] at hf
 |map=>simp [free,aV] at hf
 |func=>simp [free,aV] at hf
 |yield=>simp [free,aV] at hf
 |_=>rfl
theorem VR.one {v v':Value} (h:VR Γ w v v') (ho:Iv.one v=true):v'.oneCell'=true:=by
 cases h<;>first |rfl |simp [Iv.one] at ho
theorem VR.cells {v v':Value} (h:VR Γ w v v') (ho:v≠Iv.aS):cB Γ w v.cells.toList v'.cells.toList:=by
 cases h with
 |agg h=>exact h
 |aS=>exact absurd rfl ho
 |bool b=>exact .cons (.bool b) .nil
 |int k n=>exact .cons (.int k n) .nil
 |float k n=>exact .cons (.float k n) .nil
 |complex k n m=>exact .cons (.complex k n m) .nil
 |string s=>exact .cons (.string s) .nil
 |yR=>exact .cons .yR .nil
 |ptr h=>exact .cons (.ptr h) .nil
 |Dl=>exact .cons .Dl .nil
 |slice h hc hl ha=>exact .cons (.slice h hc hl ha) .nil
 |dV h hl hr=>exact .cons (.dV h hl hr) .nil
 |Js=>exact .cons .Js .nil
 |map h=>exact .cons (.map h) .nil
 |DX=>exact .cons .DX .nil
 |func hf ha hc=>exact .cons (.func hf ha hc) .nil
 |yield h=>exact .cons (.yield h) .nil
 |nilFunc=>exact .cons .nilFunc .nil
 |iface t h=>exact .cons (.iface t h) .nil
 |nilIface=>exact .cons .nilIface .nil
 |tuple h=>exact .cons (.tuple h) .nil
end lists
theorem fY {a b:Nat} (h:a≠b):Nat.beq a b=false:=by
 cases hb:Nat.beq a b with
 |false=>rfl
 |true=>exact absurd (Nat.eq_of_beq_eq_true hb) h
theorem xY (l:AL) (d t:Nat) (v:Value):lk (My l d v) t=if t=d then v else lk l t:=by
 induction l with
 |e=>
  simp only [My,lk];by_cases h:t=d
  ·subst h;simp
  ·have:Nat.beq d t=false:=fY fun e=>h e.symm
   simp [this,h]
 |c k u r ih=>
  simp only [My];cases hk:Nat.beq k d with
  |true=>
   have e:=Nat.eq_of_beq_eq_true hk;subst e;simp only [zac,lk];by_cases h:t=k
   ·subst h;simp
   ·have:Nat.beq k t=false:=fY fun e=>h e.symm
    simp [this,h]
  |false=>
   have hne:k≠d:=Nat.ne_of_beq_eq_false hk;simp only [zab,lk,ih];by_cases h:t=d
   ·subst h
    simp [hk]
   ·simp [h]
theorem qP (fi:FI) (E:En) (d t:Nat) (v:Value):fw fi (nq fi d v E) t=if t=d/\d<fi.nt then v else fw fi E t:=by
 have hout:∀ x,cls fi x= .out↔fi.nt<=x:=by
  intro x;unfold cls;cases hb:Nat.ble fi.nt x with
  |true=>simp [Nat.le_of_ble_eq_true hb]
  |false=>
   have:¬ fi.nt<=x:=fun h=>by rw [Nat.ble_eq_true_of_le h] at hb;cases hb
   cases ou fi.cs x<;>simp [this]
 unfold nq;by_cases h:t=d
 ·subst h
  unfold fw;cases hc:cls fi t with
  |out=>
   have:=(hout t).1 hc;rw [if_neg (by omega)]
  |loc=>
   have:t<fi.nt:=by
    rcases Nat.lt_or_ge t fi.nt with x |x
    ·exact x
    ·rw [(hout t).2 x] at hc;cases hc
   simp only [xY,if_true];rw [if_pos ⟨trivial,this⟩]
  |tmp=>
   have:t<fi.nt:=by
    rcases Nat.lt_or_ge t fi.nt with x |x
    ·exact x
    ·rw [(hout t).2 x] at hc;cases hc
   simp only [lk];rw [if_pos ⟨trivial,this⟩];simp
 ·rw [if_neg (fun x=>h x.1)]
  unfold fw;have hb:Nat.beq d t=false:=fY fun e=>h e.symm
  cases hd:cls fi d<;>cases ht:cls fi t<;>simp [xY,lk,hb,h]
structure TR (Γ:Ga) (w:World) (fi:FI) (E:En) (tm:Array Value):Prop where
 size:tm.size=fi.nt
 get:∀ t,VR Γ w (fw fi E t) (tm.getD t Go.undef)
theorem TR.mono {Γ Γ':Ga} {w w':World} (hg:Γ.le Γ') (hs:eN w w') {fi:FI} {E:En} {tm:Array Value} (h:TR Γ w fi E tm):TR Γ' w' fi E tm:=
 ⟨h.size,fun t=>(h.get t).mono hg hs⟩
theorem TR.set {Γ:Ga} {w:World} {fi:FI} {E:En} {tm:Array Value} (h:TR Γ w fi E tm) (d:Nat) {v v':Value} (hv:VR Γ w v v'):TR Γ w fi (nq fi d v E) (tm.setIfInBounds d v'):=by
 refine ⟨by simp [h.size],fun t=>?_⟩;rw [qP];by_cases hc:t=d/\d<fi.nt
 ·rw [if_pos hc]
  obtain ⟨rfl,hlt⟩:=hc;have:t<tm.size:=by rw [h.size];exact hlt
  simpa [Array.getD_eq_getD_getElem?,this] using hv
 ·rw [if_neg hc]
  have:(tm.setIfInBounds d v').getD t Go.undef=tm.getD t Go.undef:=by
   by_cases e:t=d
   ·subst e
    have:tm.size<=t:=by rw [h.size];omega
    simp [Array.getD_eq_getD_getElem?,this]
   ·simp [Array.getD_eq_getD_getElem?,Array.getElem?_setIfInBounds_ne (Ne.symm e)]
  rw [this];exact h.get t
theorem TR.reset {Γ:Ga} {w:World} {fi:FI} {E:En} {tm:Array Value} (h:TR Γ w fi E tm):TR Γ w fi E.reset tm:=by
 refine ⟨h.size,fun t=>?_⟩;have:=h.get t;unfold fw at this ⊢;cases hc:cls fi t with
 |out=>exact .aS _
 |loc=>rw [hc] at this;exact this
 |tmp=>exact .aS _
structure Wd (Γ:Ga) (w:World) (b:Nat) (cs:List Value) (e:TypeId) (fz:Nat) (ex sh:Bool) (cs':Array Value) (lo hi:Nat):Prop where
 block:w.heap[(Γ.φ b).1]? =some (.cells cs' e (lo,hi))
 room:(Γ.φ b).2+cs.length<=cs'.size
 cell:∀ i v,cs[i]? =some v->∃ v',cs'[(Γ.φ b).2+i]? =some v'/\VR Γ w v v'
 lL:ex=true->(Γ.φ b).2=0/\cs'.size=cs.length
 frozen:dO<=b->lo<=hi/\∀ j,lo<=j->j<hi->j<(Γ.φ b).2+fz∨(sh=true/\cs'.size<=j)
 LW:sh=true->(Γ.φ b).2=0
inductive gP (Γ:Ga) (w:World):List MapEntry->List MapEntry->Prop
 |nil:gP Γ w [] []
 |cons {e e':MapEntry} {l l':List MapEntry} (hk:VR Γ w e.key e'.key) (hf:free e.key=true) (hv:VR Γ w e.val e'.val) (hb:e'.born=e.born) (t:gP Γ w l l'):
   gP Γ w (e::l) (e'::l')
def gz (Γ:Ga) (w:World) (b:Nat):bA->Prop
 | .cells cs e fz ex sh=>∃ cs' lo hi,Wd Γ w b cs e fz ex sh cs' lo hi
 | .map es ck=>∃ es',w.heap[(Γ.φ b).1]? =some (.map es' ck)/\gP Γ w es es'.toList
 | .eW s pos=>w.heap[(Γ.φ b).1]? =some (.stringIter s pos)/\(Γ.φ b).2=0
 | .loop st pd fi E ps dZ body=>∃ fn tm df,w.heap[(Γ.φ b).1]? =some (.loop { state:=st,pending:=pd,fn,tmps:=tm,params:=ps.toArray,assign:=dZ,body,defers:=df })/\TR Γ w fi E tm
 | .mf true=>w.heap[(Γ.φ b).1]? =some (.deferred (some []))
 | .mf false=>w.heap[(Γ.φ b).1]? =some (.deferred none)
structure Rh (Γ:Ga) (H:IH) (w:World):Prop where
 bj:∀ b,Γ.bj b->b<H.n
 ro:dO<=H.n
 cE:∀ g,g<bU->Γ.bj g/\Γ.φ g=(g,0)
 live:∀ b o,H.get b=some o->Γ.bj b
 inj:∀ b b' o o',dO<=b->H.get b=some o->H.get b'=some o'->(Γ.φ b).1=(Γ.φ b').1->b=b'
 obj:∀ b o,H.get b=some o->gz Γ w b o
def DA (Γ:Ga) (H:IH) (b:Nat):Prop:=∃ i o,dO<=i/\H.get i=some o/\(Γ.φ i).1=b
structure Ext (Γ:Ga) (H:IH) (w:World) (Γ':Ga) (H':IH) (w':World):Prop where
 EZ:H.n<=H'.n
 φ:∀ i,(i<H.n∨H'.n<=i)->Γ'.φ i=Γ.φ i
 bj:∀ i,Γ'.bj i↔(Γ.bj i∨(H.n<=i/\i<H'.n))
 size:w.heap.size<=w'.heap.size
 os:w'.os=w.os
 tape:w'.tape=w.tape
 output:w'.output=w.output
 same:eN w w'
 cI:∀ b,b<w.heap.size->¬ DA Γ H b->w'.heap[b]? =w.heap[b]?
 o6:∀ b,b<w.heap.size->DA Γ' H' b->DA Γ H b
 SI:∀ i,i<dO->∀ o,H'.get i=some o->∃ o',H.get i=some o'
theorem Ext.refl (Γ:Ga) (H:IH) (w:World):Ext Γ H w Γ H w:=
 ⟨zai _,fun _ _=>rfl,fun i=>⟨.inl,fun h=>h.elim id fun h=>by omega⟩,zai _,rfl,rfl,rfl,.refl w,fun _ _ _=>rfl,fun _ _ h=>h,fun _ _ o h=>⟨o,h⟩⟩
theorem Ext.le {Γ:Ga} {H:IH} {w:World} {Γ':Ga} {H':IH} {w':World} (h:Ext Γ H w Γ' H' w') (hr:Rh Γ H w):Γ.le Γ':=
 ⟨fun i hi=>(h.bj i).2 (.inl hi),fun i hi=>h.φ i (.inl (hr.bj i hi))⟩
theorem Ext.trans {Γ Γ' Γ'':Ga} {H H' H'':IH} {w w' w'':World} (h:Ext Γ H w Γ' H' w') (k:Ext Γ' H' w' Γ'' H'' w''):Ext Γ H w Γ'' H'' w'' where
 EZ:=Nat.le_trans h.EZ k.EZ
 φ i hi:=by
  have h1:=h.EZ;have h2:=k.EZ;exact (k.φ i (by omega)).trans (h.φ i (by omega))
 bj i:=by
  have h1:=h.EZ;have h2:=k.EZ;rw [k.bj,h.bj];constructor
  ·rintro ((x |x) |x)
   ·exact .inl x
   ·exact .inr ⟨x.1,by omega⟩
   ·exact .inr ⟨by omega,x.2⟩
  ·rintro (x |x)
   ·exact .inl (.inl x)
   ·by_cases hi:i<H'.n
    ·exact .inl (.inr ⟨x.1,hi⟩)
    ·exact .inr ⟨by omega,x.2⟩
 size:=Nat.le_trans h.size k.size
 os:=k.os.trans h.os
 tape:=k.tape.trans h.tape
 output:=k.output.trans h.output
 same:=h.same.trans k.same
 cI b hb hi:=(k.cI b (Nat.lt_of_lt_of_le hb h.size) fun x=>hi (h.o6 b hb x)).trans (h.cI b hb hi)
 o6 b hb x:=h.o6 b hb (k.o6 b (Nat.lt_of_lt_of_le hb h.size) x)
 SI i hi o x:=(k.SI i hi o x).elim fun o1 x1=>h.SI i hi o1 x1
theorem VR.ext {Γ Γ':Ga} {H H':IH} {w w':World} (hr:Rh Γ H w) (h:Ext Γ H w Γ' H' w') {v v':Value} (hv:VR Γ w v v'):VR Γ' w' v v':=hv.mono (h.le hr) h.same
theorem cB.ext {Γ Γ':Ga} {H H':IH} {w w':World} (hr:Rh Γ H w) (h:Ext Γ H w Γ' H' w') {v v':List Value} (hv:cB Γ w v v'):cB Γ' w' v v':=hv.mono (h.le hr) h.same
theorem TR.ext {Γ Γ':Ga} {H H':IH} {w w':World} (hr:Rh Γ H w) (h:Ext Γ H w Γ' H' w') {fi:FI} {E:En} {tm:Array Value} (hv:TR Γ w fi E tm):TR Γ' w' fi E tm:=hv.mono (h.le hr) h.same
theorem gP.mono {Γ Γ':Ga} {w w':World} (hg:Γ.le Γ') (hs:eN w w') {l l':List MapEntry} (h:gP Γ w l l'):gP Γ' w' l l':=by
 induction h with
 |nil=>exact .nil
 |cons hk hf hv hb _ ih=>exact .cons (hk.mono hg hs) hf (hv.mono hg hs) hb ih
theorem gz.mono {Γ Γ':Ga} {w w':World} (hg:Γ.le Γ') (hs:eN w w') {b:Nat} {o:bA} (hd:Γ.bj b) (hb:w'.heap[(Γ.φ b).1]? =w.heap[(Γ.φ b).1]?) (h:gz Γ w b o):gz Γ' w' b o:=by
 have e:=hg.φ b hd;cases o with
 |cells cs el fz ex sh=>
  obtain ⟨cs',lo,hi,hc⟩:=h;exact ⟨cs',lo,hi,by rw [e,hb];exact hc.block,by rw [e];exact hc.room,fun i v hv=>by
   obtain ⟨v',h1,h2⟩:=hc.cell i v hv;exact ⟨v',by rw [e];exact h1,h2.mono hg hs⟩,by rw [e];exact hc.lL,by rw [e];exact hc.frozen,by rw [e];exact hc.LW⟩
 |map es ck=>obtain ⟨es',h1,h2⟩:=h;exact ⟨es',by rw [e,hb];exact h1,h2.mono hg hs⟩
 |eW s pos=>unfold gz at h ⊢;rw [e,hb];exact h
 |loop st pd fi E ps dZ body=>obtain ⟨fn,tm,df,h1,h2⟩:=h;exact ⟨fn,tm,df,by rw [e,hb];exact h1,h2.mono hg hs⟩
 |mf x=>cases x<;>(unfold gz at h ⊢;rw [e,hb];exact h)
theorem Rh.lt {Γ:Ga} {H:IH} {w:World} (h:Rh Γ H w) {b:Nat} {o:bA} (hb:H.get b=some o):(Γ.φ b).1<w.heap.size:=by
 have ho:=h.obj b o hb;have key:∀ x,w.heap[(Γ.φ b).1]? =some x->(Γ.φ b).1<w.heap.size:=fun x hx=>(Array.getElem?_eq_some_iff.1 hx).1
 cases o with
 |cells cs e fz ex sh=>obtain ⟨cs',lo,hi,hc⟩:=ho;exact key _ hc.block
 |map es ck=>obtain ⟨es',h1,_⟩:=ho;exact key _ h1
 |eW s pos=>exact key _ ho.1
 |loop st pd fi E ps dZ body=>obtain ⟨fn,tm,df,h1,_⟩:=ho;exact key _ h1
 |mf x=>cases x<;>exact key _ ho
theorem Rh.drew {Γ:Ga} {H:IH} {w:World} (h:Rh Γ H w):Rh Γ H w.drew/\Ext Γ H w Γ H w.drew:=by
 have hs:eN w w.drew:=fun b cs e f hb=>⟨cs,f,hb,rfl⟩
 refine ⟨⟨h.bj,h.ro,h.cE,h.live,h.inj,fun b o hb=>(h.obj b o hb).mono (.refl Γ) hs (h.live b o hb) rfl⟩,?_⟩;exact ⟨zai _,fun _ _=>rfl,fun i=>⟨.inl,fun x=>x.elim id fun x=>by omega⟩,zai _,rfl,rfl,rfl,hs,fun _ _ _=>rfl,fun _ _ x=>x,fun _ _ o x=>⟨o,x⟩⟩
def Ga.next (Γ:Ga) (n:Nat) (p:Nat×Nat):Ga:={ φ:=fun i=>if i=n then p else Γ.φ i,bj:=fun i=>Γ.bj i∨i=n }
theorem Ga.le_next {Γ:Ga} {n:Nat} {p:Nat×Nat} (h:¬ Γ.bj n):Γ.le (Γ.next n p):=
 ⟨fun _ x=> .inl x,fun i x=>by simp only [Ga.next];rw [if_neg];rintro rfl;exact h x⟩
@[simp] theorem Ga.bp (Γ:Ga) (n:Nat) (p:Nat×Nat):(Γ.next n p).φ n=p:=by simp [Ga.next]
theorem heap_alloc_old {w:World} {o:Obj} {b:Nat} (h:b<w.heap.size):(w.alloc o).heap[b]? =w.heap[b]? :=by
 simp only [World.alloc];rw [Array.getElem?_push,if_neg (by omega)]
theorem heap_alloc_new {w:World} {o:Obj}:(w.alloc o).heap[w.heap.size]? =some o:=(MapKept.heap_alloc w o).1
theorem eN.alloc (w:World) (o:Obj):eN w (w.alloc o):=fun _ cs _ f hb=>
 ⟨cs,f,(heap_alloc_old (Array.getElem?_eq_some_iff.1 hb).1).trans hb,rfl⟩
theorem Rh.new {Γ:Ga} {H:IH} {w:World} (h:Rh Γ H w) (o:bA) (o':Obj)
  (ho:gz (Γ.next H.n (w.heap.size,0)) (w.alloc o') H.n o):
  Rh (Γ.next H.n (w.heap.size,0)) (H.new o) (w.alloc o')/\Ext Γ H w (Γ.next H.n (w.heap.size,0)) (H.new o) (w.alloc o'):=by
 have hn:¬ Γ.bj H.n:=fun x=>by have:=h.bj _ x;omega
 have hle:=Ga.le_next (p:=(w.heap.size,0)) hn;have hφ:∀ b,H.get b≠none->b≠H.n:=by
  rintro b hb rfl;cases hx:H.get H.n with
  |none=>exact hb hx
  |some x=>have:=h.bj _ (h.live _ _ hx);omega
 have hold:∀ b x,H.get b=some x->((Γ.next H.n (w.heap.size,0)).φ b)=Γ.φ b:=fun b x hb=>hle.φ b (h.live b x hb)
 constructor
 ·refine ⟨?_,by have:=h.ro;simp;omega,fun g hg=>⟨.inl (h.cE g hg).1,(hle.φ g (h.cE g hg).1).trans (h.cE g hg).2⟩,?_,?_,?_⟩
  ·rintro b (hb |rfl)
   ·have:=h.bj b hb;simp;omega
   ·simp
  ·intro b x hb
   rw [IH.az] at hb;by_cases e:b=H.n
   ·exact .inr e
   ·rw [if_neg e] at hb;exact .inl (h.live b x hb)
  ·intro b b' x x' hro hb hb' e
   rw [IH.az] at hb hb';by_cases e1:b=H.n<;>by_cases e2:b'=H.n
   ·rw [e1,e2]
   ·rw [if_neg e2] at hb'
    subst e1;rw [Ga.bp,hold b' _ hb'] at e;have:=h.lt hb';simp only at e;omega
   ·rw [if_neg e1] at hb
    subst e2;rw [Ga.bp,hold b _ hb] at e;have:=h.lt hb;simp only at e;omega
   ·rw [if_neg e1] at hb
    rw [if_neg e2] at hb';rw [hold b _ hb,hold b' _ hb'] at e;exact h.inj b b' x x' hro hb hb' e
  ·intro b x hb
   rw [IH.az] at hb;by_cases e:b=H.n
   ·rw [if_pos e] at hb;cases hb;rw [e];exact ho
   ·rw [if_neg e] at hb
    exact (h.obj b x hb).mono hle (.alloc w o') (h.live b x hb) (heap_alloc_old (h.lt hb))
 ·refine ⟨by simp,?_,?_,by simp,rfl,rfl,rfl,.alloc w o',fun b hb _=>heap_alloc_old hb,?_,fun i hi x hx=>⟨x,by rw [IH.az,if_neg (by have:=h.ro;omega)] at hx;exact hx⟩⟩
  ·intro i hi
   simp only [Ga.next];rw [if_neg];rintro rfl;simp at hi;omega
  ·intro i
   simp only [Ga.next,IH.Qb];constructor
   ·rintro (x |x)
    ·exact .inl x
    ·exact .inr (by omega)
   ·rintro (x |x)
    ·exact .inl x
    ·exact .inr (by omega)
  ·rintro b hb ⟨i,x,hi,hx,e⟩
   rw [IH.az] at hx;by_cases e1:i=H.n
   ·subst e1;rw [Ga.bp] at e;simp only at e;omega
   ·rw [if_neg e1] at hx
    exact ⟨i,x,hi,hx,by rw [←e,hold i _ hx]⟩
theorem Rh.hX {Γ:Ga} {H:IH} {w w':World} (h:Rh Γ H w) {b:Nat} {o:bA} (o':bA) (hb:H.get b=some o) (hro:dO<=b) (hsz:w'.heap.size=w.heap.size)
  (hos:w'.os=w.os) (htp:w'.tape=w.tape) (hout:w'.output=w.output) (hs:eN w w') (hk:∀ x,x≠(Γ.φ b).1->w'.heap[x]? =w.heap[x]?)
  (ho:gz Γ w' b o'):Rh Γ (H.put b o') w'/\Ext Γ H w Γ (H.put b o') w':=by
 have himg:∀ x,DA Γ (H.put b o') x->DA Γ H x:=by
  rintro x ⟨i,y,hi,hy,e⟩;rw [IH.ah] at hy;by_cases e1:i=b
  ·subst e1;exact ⟨i,o,hi,hb,e⟩
  ·rw [if_neg e1] at hy;exact ⟨i,y,hi,hy,e⟩
 have hlive:∀ x y,(H.put b o').get x=some y->∃ z,H.get x=some z:=by
  intro x y hx;rw [IH.ah] at hx;by_cases e1:x=b
  ·exact ⟨o,e1▸hb⟩
  ·rw [if_neg e1] at hx;exact ⟨y,hx⟩
 constructor
 ·refine ⟨h.bj,h.ro,h.cE,fun x y hx=>?_,fun x x' y y' hro' hx hx' e=>?_,fun x y hx=>?_⟩
  ·obtain ⟨z,hz⟩:=hlive x y hx;exact h.live x z hz
  ·obtain ⟨z,hz⟩:=hlive x y hx
   obtain ⟨z',hz'⟩:=hlive x' y' hx';exact h.inj x x' z z' hro' hz hz' e
  ·have hx0:=hx
   rw [IH.ah] at hx;by_cases e1:x=b
   ·rw [if_pos e1] at hx;cases hx;rw [e1];exact ho
   ·rw [if_neg e1] at hx
    exact (h.obj x y hx).mono (.refl Γ) hs (h.live x y hx) (hk _ fun e=>e1 (h.inj b x o y hro hb hx e.symm).symm)
 ·exact ⟨zai _,fun _ _=>rfl,fun i=>⟨.inl,fun x=>x.elim id fun x=>by have:=x.1;have:=x.2;simp at this;omega⟩,Nat.le_of_eq hsz.symm,hos,htp,hout,hs,
   fun x _ hx=>hk x fun e=>hx ⟨b,o,hro,hb,e.symm⟩,fun x _ hx=>himg x hx,fun i _ y hy=>hlive i y hy⟩
theorem Rh.del {Γ:Ga} {H:IH} {w:World} (h:Rh Γ H w) (b:Nat):Rh Γ (H.del b) w/\Ext Γ H w Γ (H.del b) w:=by
 have hlive:∀ x y,(H.del b).get x=some y->H.get x=some y:=by
  intro x y hx;rw [IH.cO] at hx;by_cases e1:x=b
  ·rw [if_pos e1] at hx;cases hx
  ·rw [if_neg e1] at hx;exact hx
 constructor
 ·exact ⟨h.bj,h.ro,h.cE,fun x y hx=>h.live x y (hlive x y hx),fun x x' y y' hro hx hx' e=>h.inj x x' y y' hro (hlive x y hx) (hlive x' y' hx') e,fun x y hx=>h.obj x y (hlive x y hx)⟩
 ·exact ⟨zai _,fun _ _=>rfl,fun i=>⟨.inl,fun x=>x.elim id fun x=>by have:=x.1;have:=x.2;simp at this;omega⟩,zai _,rfl,rfl,rfl,.refl w,fun _ _ _=>rfl,
   fun x _ ⟨i,y,hi,hy,e⟩=>⟨i,y,hi,hlive i y hy,e⟩,fun i _ y hy=>⟨y,hlive i y hy⟩⟩
theorem Rh.take {Γ:Ga} {H:IH} {w w':World} (h:Rh Γ H w) (o:bA) (p:Nat×Nat) (hp:∀ i x,H.get i=some x->(Γ.φ i).1≠p.1)
  (hs:eN w w') (hk:∀ x,x≠p.1->w'.heap[x]? =w.heap[x]?)
  (ho:gz (Γ.next H.n p) w' H.n o):
  Rh (Γ.next H.n p) (H.new o) w'/\(∀ i,(i<H.n∨H.n+1<=i)->(Γ.next H.n p).φ i=Γ.φ i)/\Γ.le (Γ.next H.n p):=by
 have hn:¬ Γ.bj H.n:=fun x=>by have:=h.bj _ x;omega
 have hle:=Ga.le_next (p:=p) hn;have hold:∀ b x,H.get b=some x->((Γ.next H.n p).φ b)=Γ.φ b:=fun b x hb=>hle.φ b (h.live b x hb)
 refine ⟨⟨?_,by have:=h.ro;simp;omega,fun g hg=>⟨.inl (h.cE g hg).1,(hle.φ g (h.cE g hg).1).trans (h.cE g hg).2⟩,?_,?_,?_⟩,?_,hle⟩
 ·rintro b (hb |rfl)
  ·have:=h.bj b hb;simp;omega
  ·simp
 ·intro b x hb
  rw [IH.az] at hb;by_cases e:b=H.n
  ·exact .inr e
  ·rw [if_neg e] at hb;exact .inl (h.live b x hb)
 ·intro b b' x x' hro hb hb' e
  rw [IH.az] at hb hb';by_cases e1:b=H.n<;>by_cases e2:b'=H.n
  ·rw [e1,e2]
  ·rw [if_neg e2] at hb'
   subst e1;rw [Ga.bp,hold b' _ hb'] at e;exact absurd e.symm (hp b' _ hb')
  ·rw [if_neg e1] at hb
   subst e2;rw [Ga.bp,hold b _ hb] at e;exact absurd e (hp b _ hb)
  ·rw [if_neg e1] at hb
   rw [if_neg e2] at hb';rw [hold b _ hb,hold b' _ hb'] at e;exact h.inj b b' x x' hro hb hb' e
 ·intro b x hb
  rw [IH.az] at hb;by_cases e:b=H.n
  ·rw [if_pos e] at hb;cases hb;rw [e];exact ho
  ·rw [if_neg e] at hb
   exact (h.obj b x hb).mono hle hs (h.live b x hb) (hk _ (hp b x hb))
 ·intro i hi
  simp only [Ga.next];rw [if_neg];rintro rfl;omega
theorem Rh.bq {Γ:Ga} {H:IH} {w:World} (h:Rh Γ H w) {b off n:Nat} {cs:List Value} (hc:H.bq b off n=some cs):
  ∃ cs':List Value,cB Γ w cs cs'/\cs'.length=n/\∀ j v,cs'[j]? =some v->w.cell? ((Γ.at b off).add j)=some v:=by
 unfold IH.bq at hc;split at hc
 ·rename_i l e fz ex sh hb
  split at hc
  ·rename_i hle
   simp only [Option.some.injEq] at hc;subst hc;obtain ⟨cs',lo,hi,hr⟩:=h.obj b _ hb;refine ⟨((cs'.toList.drop ((Γ.φ b).2+off)).take n),.PU ?_ ?_,?_,?_⟩
   ·have:=hr.room;simp;omega
   ·intro i v hv
    have hi':i<n:=by
     rcases Nat.lt_or_ge i n with x |x
     ·exact x
     ·rw [List.getElem?_eq_none (by simp;omega)] at hv;cases hv
    rw [List.getElem?_take_of_lt hi',List.getElem?_drop] at hv;obtain ⟨v',h1,h2⟩:=hr.cell _ _ hv;refine ⟨v',?_,h2⟩;rw [List.getElem?_take_of_lt hi',List.getElem?_drop,Array.getElem?_toList,←h1]
    congr 1
    omega
   ·have:=hr.room;simp;omega
   ·intro j v hv
    have hj:j<n:=by
     rcases Nat.lt_or_ge j n with x |x
     ·exact x
     ·rw [List.getElem?_eq_none (by simp;omega)] at hv;cases hv
    rw [List.getElem?_take_of_lt hj,List.getElem?_drop,Array.getElem?_toList] at hv;have e:(Γ.at b off).add j=⟨(Γ.φ b).1,(Γ.φ b).2+off+j,none⟩:=by
     simp only [Ga.at,Addr.add];split<;>simp_all
    rw [e];simp only [World.cell?,hr.block];simpa using hv
  ·cases hc
 ·cases hc
end Go.Iv
