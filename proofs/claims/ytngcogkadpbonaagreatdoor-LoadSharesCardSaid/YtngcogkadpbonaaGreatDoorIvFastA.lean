/- The same evaluator in a form that the kernel runs fast (the first part): tables, lists. -/
import Derived.Test.YtngcogkadpbonaaGreatDoorIvEval
set_option linter.unusedSimpArgs false
set_option linter.unusedVariables false
namespace Go.Iv
open Go
noncomputable def Tc (l:AL):Nat->Value:=@AL.rec (fun _=>Nat->Value) (fun _=>ay) (fun k v _ ih t=>@Bool.rec (fun _=>Value) (ih t) v (Nat.beq k t)) l
theorem Jy (l:AL) (t:Nat):Tc l t=lk l t:=by
 induction l with
 |e=>rfl
 |c k v r ih=>
  show @Bool.rec (fun _=>Value) (Tc r t) v (Nat.beq k t)=lk (.c k v r) t
  rw [ih];simp only [lk];cases Nat.beq k t<;>rfl
noncomputable def EA (l:AL):Nat->Value->AL:=@AL.rec (fun _=>Nat->Value->AL) (fun d v=> .c d v .e) (fun k u r ih d v=>@Bool.rec (fun _=>AL) (.c k u (ih d v)) (.c d v r) (Nat.beq k d)) l
theorem s9 (l:AL) (d:Nat) (v:Value):EA l d v=RL l d v:=by
 induction l with
 |e=>rfl
 |c k u r ih=>
  show @Bool.rec (fun _=>AL) (.c k u (EA r d v)) (.c d v r) (Nat.beq k d)=RL (.c k u r) d v
  rw [ih];simp only [RL];cases Nat.beq k d<;>rfl
noncomputable def sJ (m i:Nat):Bool:=Nat.beq (Nat.land 1 (Nat.shiftRight m i)) 1
theorem dR (m i:Nat):sJ m i=m.testBit i:=by
 show Nat.beq (1 &&&(m>>>i)) 1=((1 &&&(m>>>i)) !=0)
 rw [Nat.one_and_eq_mod_two];have h:m>>>i%2=0∨m>>>i%2=1:=by omega
 rcases h with h |h<;>rw [h]<;>rfl
noncomputable def uG (l:List Nat) (t:Nat):Bool:=@List.rec Nat (fun _=>Bool) false (fun k _ ih=>@Bool.rec (fun _=>Bool) ih true (Nat.beq k t)) l
theorem PE (l:List Nat) (t:Nat):uG l t=ub l t:=by
 induction l with
 |nil=>rfl
 |cons k l ih=>
  show @Bool.rec (fun _=>Bool) (uG l t) true (Nat.beq k t)=_
  rw [ih];simp only [ub];cases Nat.beq k t<;>rfl
noncomputable def sF (fi:FI) (t:Nat):QU:=@Bool.rec (fun _=>QU) (@Bool.rec (fun _=>QU) .tmp .loc (uG fi.cs t)) .out (Nat.ble fi.nt t)
theorem jN (fi:FI) (t:Nat):sF fi t=cls fi t:=by
 unfold sF cls;rw [PE];cases Nat.ble fi.nt t<;>cases ub fi.cs t<;>rfl
noncomputable def Pf (fi:FI) (E:En) (t:Nat):Value:=@QU.rec (fun _=>Value) ay (Tc E.loc t) (Tc E.tmp t) (sF fi t)
theorem s4 (fi:FI) (E:En) (t:Nat):Pf fi E t=dC fi E t:=by
 unfold Pf dC;rw [Jy,Jy,jN];cases cls fi t<;>rfl
noncomputable def JF (fi:FI) (d:Nat) (v:Value) (E:En):En:=@QU.rec (fun _=>En) E ⟨EA E.loc d v,E.tmp⟩ ⟨E.loc,.c d v E.tmp⟩ (sF fi d)
theorem Ep (fi:FI) (d:Nat) (v:Value) (E:En):JF fi d v E=jl fi d v E:=by
 unfold JF jl;rw [s9,jN];cases cls fi d<;>rfl
noncomputable def hU (fi:FI) (E:En) (dst:Option Tmp) (v:Value):En:=@Option.rec Nat (fun _=>En) E (fun d=>JF fi d v E) dst
theorem dW (fi:FI) (E:En) (dst:Option Tmp) (v:Value):hU fi E dst v=a3 fi E dst v:=by
 cases dst with
 |none=>rfl
 |some d=>exact Ep fi d v E
noncomputable def OS (g:Nat):Value:=@Bool.rec (fun _=>Value) ay (.pointer (some ⟨g,0,none⟩)) (Nat.ble (Nat.succ g) 32)
noncomputable def PR (v:Value):Value:=@Bool.rec (fun _=>Value) ay v (free v)
def Vb (f:FuncId):Value:= .func (.func f) #[] #[]
noncomputable def qv (fi:FI) (E:En) (x:Operand):Value:=@Operand.rec (fun _=>Value) (Pf fi E) PR OS Vb x
theorem dk (fi:FI) (E:En):qv fi E=cg fi E:=by
 funext x;cases x with
 |tmp t=>exact s4 fi E t
 |const v=>
  show PR v=(if free v=true then v else ay)
  unfold PR;cases free v<;>rfl
 |global g=>
  show OS g=(if g<sd then Value.pointer (some ⟨g,0,none⟩) else ay)
  unfold OS;by_cases h:g<sd
  ·rw [if_pos h,Nat.ble_eq_true_of_le (show Nat.succ g<=32 from h)]
  ·rw [if_neg h]
   cases hb:Nat.ble (Nat.succ g) 32 with
   |false=>rfl
   |true=>exact absurd (Nat.le_of_ble_eq_true hb) h
 |func f=>rfl
def Kt:IntKind->Nat
 | .i8=>127 | .i16=>32767 | .i32=>2147483647 | .i64=>9223372036854775807
 | .u8=>255 | .u16=>65535 | .u32=>4294967295 | .u64=>18446744073709551615
theorem D6 (k:IntKind) (a:Nat) (h:a<=Kt k):k.wrap (.ofNat a)= .ofNat a:=by
 have e:(Int.ofNat a)=(a:Int):=rfl;rw [e];cases k<;>simp only [Kt] at h<;>simp only [IntKind.wrap,IntKind.bits,IntKind.signed]<;>simp<;>first |omega |(split<;>omega)
noncomputable def oM (k:IntKind) (n:Int):Int:=@Int.rec (fun _=>Int) (fun a=>@Bool.rec (fun _=>Int) (k.wrap (.ofNat a)) (.ofNat a) (Nat.ble a (Kt k))) (fun a=>k.wrap (.negSucc a)) n
theorem rI (k:IntKind) (n:Int):oM k n=k.wrap n:=by
 cases n with
 |ofNat a=>
  show @Bool.rec (fun _=>Int) (k.wrap (.ofNat a)) (.ofNat a) (Nat.ble a (Kt k))=_
  cases hb:Nat.ble a (Kt k) with
  |false=>rfl
  |true=>exact (D6 k a (Nat.le_of_ble_eq_true hb)).symm
 |negSucc a=>rfl
noncomputable def Se (n m:Int):Int:=@Int.rec (fun _=>Int) (fun a=>@Int.rec (fun _=>Int) (fun b=> .ofNat (Nat.add a b)) (fun b=>Int.add (.ofNat a) (.negSucc b)) m) (fun a=>Int.add (.negSucc a) m) n
theorem Rw (n m:Int):Se n m=n+m:=by
 cases n<;>cases m<;>rfl
noncomputable def Et (a b:Bool):Bool:=@Bool.rec (fun _=>Bool) false b a
theorem s7 (a b:Bool):Et a b=(a &&b):=by cases a<;>rfl
noncomputable def FL {α:Type} (l:List α):Nat->Option α:=@List.rec α (fun _=>Nat->Option α) (fun _=>none) (fun v _ ih n=>@Nat.rec (fun _=>Option α) (some v) (fun m _=>ih m) n) l
theorem jc {α:Type} (l:List α):∀ n,FL l n=l[n]? :=by
 induction l with
 |nil=>intro n;rfl
 |cons v l ih=>intro n;cases n with
  |zero=>rfl
  |succ n=>show FL l n=_;rw [ih];rfl
noncomputable def PH {α:Type} (l:List α):Nat:=@List.rec α (fun _=>Nat) 0 (fun _ _ ih=>Nat.succ ih) l
theorem QE {α:Type} (l:List α):PH l=l.length:=by
 induction l with
 |nil=>rfl
 |cons v l ih=>show Nat.succ (PH l)=_;rw [ih];rfl
noncomputable def MO {α:Type} (n:Nat):List α->List α:=@Nat.rec (fun _=>List α->List α) (fun l=>l) (fun _ ih l=>@List.rec α (fun _=>List α) [] (fun _ t _=>ih t) l) n
theorem LA {α:Type} (n:Nat):∀ l:List α,MO n l=l.drop n:=by
 induction n with
 |zero=>intro l;rfl
 |succ n ih=>intro l;cases l with
  |nil=>rfl
  |cons v l=>show MO n l=_;rw [ih];rfl
noncomputable def Fj {α:Type} (n:Nat):List α->Option (List α):=
 @Nat.rec (fun _=>List α->Option (List α)) (fun _=>some []) (fun _ ih l=>@List.rec α (fun _=>Option (List α)) none (fun v t _=>@Option.rec (List α) (fun _=>Option (List α)) none (fun r=>some (v::r)) (ih t)) l) n
theorem LM {α:Type} (n:Nat):∀ l:List α,Fj n l=if n<=l.length then some (l.take n) else none:=by
 induction n with
 |zero=>intro l;show some []=_;simp
 |succ n ih=>intro l;cases l with
  |nil=>show none=_;simp
  |cons v l=>
   show @Option.rec (List α) (fun _=>Option (List α)) none (fun r=>some (v::r)) (Fj n l)=_
   rw [ih];by_cases h:n<=l.length
   ·rw [if_pos h,if_pos (by simp;exact h)];rfl
   ·rw [if_neg h,if_neg (by simp;omega)]
theorem gZ (off:Nat) (vs:List Value):aF [] off vs= []:=by
 induction vs generalizing off with
 |nil=>rfl
 |cons v vs ih=>exact ih (off+1)
theorem dU (c:Value) (cs:List Value) (off:Nat) (vs:List Value):aF (c::cs) (off+1) vs=c::aF cs off vs:=by
 induction vs generalizing cs off with
 |nil=>rfl
 |cons v vs ih=>exact ih (cs.set off v) (off+1)
noncomputable def Xc (vs:List Value):List Value->List Value:=
 @List.rec Value (fun _=>List Value->List Value) (fun cs=>cs) (fun v _ ih cs=>@List.rec Value (fun _=>List Value) [] (fun _ t _=>v::ih t) cs) vs
theorem Sk (vs:List Value):∀ cs,Xc vs cs=aF cs 0 vs:=by
 induction vs with
 |nil=>intro cs;rfl
 |cons v vs ih=>intro cs;cases cs with
  |nil=>exact (gZ 0 (v::vs)).symm
  |cons c cs=>show v::Xc vs cs=aF (v::cs) 1 vs;rw [ih,dU]
noncomputable def Pa (off:Nat) (vs:List Value):List Value->List Value:=
 @Nat.rec (fun _=>List Value->List Value) (Xc vs) (fun _ ih cs=>@List.rec Value (fun _=>List Value) [] (fun c t _=>c::ih t) cs) off
theorem QN (off:Nat) (vs:List Value):∀ cs,Pa off vs cs=aF cs off vs:=by
 induction off with
 |zero=>exact Sk vs
 |succ n ih=>intro cs;cases cs with
  |nil=>exact (gZ (n+1) vs).symm
  |cons c cs=>show c::Pa n vs cs=_;rw [ih,dU]
theorem sN (vs:List Value):∀ (cs:List Value) (off:Nat),(aF cs off vs).length=cs.length:=by
 induction vs with
 |nil=>intro cs off;rfl
 |cons v vs ih=>intro cs off;show (aF (cs.set off v) (off+1) vs).length=_;rw [ih];simp
noncomputable def R2 (off:Nat) (v:Value):List Value->Option (List Value):=
 @Nat.rec (fun _=>List Value->Option (List Value)) (fun cs=>@List.rec Value (fun _=>Option (List Value)) none (fun _ t _=>some (v::t)) cs)
  (fun _ ih cs=>@List.rec Value (fun _=>Option (List Value)) none (fun c t _=>@Option.rec (List Value) (fun _=>Option (List Value)) none (fun r=>some (c::r)) (ih t)) cs) off
theorem RD (off:Nat) (v:Value):∀ cs,R2 off v cs=if off+1<=cs.length then some (aF cs off [v]) else none:=by
 induction off with
 |zero=>intro cs;cases cs with
  |nil=>rfl
  |cons c cs=>rw [if_pos (by simp)];rfl
 |succ n ih=>intro cs;cases cs with
  |nil=>rfl
  |cons c cs=>
   show @Option.rec (List Value) (fun _=>Option (List Value)) none (fun r=>some (c::r)) (R2 n v cs)=_
   rw [ih];by_cases h:n+1<=cs.length
   ·rw [if_pos h,if_pos (by simp;omega),dU]
   ·rw [if_neg h,if_neg (by simp;omega)]
noncomputable def dM (place:Nat->Option (Nat×Nat)) (n:Nat) (ps:List (Nat×Value)):List Value->Option (List Value):=
 @List.rec (Nat×Value) (fun _=>List Value->Option (List Value)) some
  (fun p _ ih cells=>@Option.rec (Nat×Nat) (fun _=>Option (List Value)) none
   (fun pl=>@Bool.rec (fun _=>Option (List Value)) none (ih (Pa pl.1 p.2.cells.toList cells)) (Et (Nat.beq (PH p.2.cells.toList) pl.2) (Nat.ble (Nat.add pl.1 pl.2) n))) (place p.1)) ps
theorem cO (off:Nat) (vs:List Value):∀ (k:Nat) (cells:Array Value),((vs.zipIdx k).foldl (fun (cs:Array Value) (x:Value×Nat)=>cs.setIfInBounds (off+x.2) x.1) cells).toList=aF cells.toList (off+k) vs:=by
 induction vs with
 |nil=>intro k cells;rfl
 |cons v vs ih=>
  intro k cells;simp only [List.zipIdx_cons,List.foldl_cons];rw [ih (k+1)];simp only [aF,Array.toList_setIfInBounds];rfl
theorem fill_eq (place:Nat->Option (Nat×Nat)) (ps:List (Nat×Value)):∀ cells:Array Value,Instr.fill place cells ps=(dM place cells.size ps cells.toList).map fun l=>⟨l⟩:=by
 induction ps with
 |nil=>intro cells;rfl
 |cons p ps ih=>
  intro cells;obtain ⟨i,v⟩:=p
  have e:dM place cells.size ((i,v)::ps) cells.toList=@Option.rec (Nat×Nat) (fun _=>Option (List Value)) none
   (fun pl=>@Bool.rec (fun _=>Option (List Value)) none (dM place cells.size ps (Pa pl.1 v.cells.toList cells.toList)) (Et (Nat.beq (PH v.cells.toList) pl.2) (Nat.ble (Nat.add pl.1 pl.2) cells.size))) (place i):=rfl
  rw [e];simp only [Instr.fill];cases place i with
  |none=>rfl
  |some pl=>
   obtain ⟨off,size⟩:=pl;simp only [QE,QN,s7];have hfold:(v.cells.zipIdx.foldl (fun cs (x:Value×Nat)=>cs.setIfInBounds (off+x.2) x.1) cells).toList=aF cells.toList off v.cells.toList:=by
    have:=cO off v.cells.toList 0 cells;rw [←Array.foldl_toList,Array.toList_zipIdx];exact this
   by_cases h:v.cells.size≠size∨off+v.cells.size>cells.size
   ·rw [if_pos (by simpa using h)]
    have hb:(Nat.beq v.cells.toList.length size &&Nat.ble (Nat.add off size) cells.size)=false:=by
     rcases h with h |h
     ·rw [show Nat.beq v.cells.toList.length size=false from by
       cases hb:Nat.beq v.cells.toList.length size with
       |false=>rfl
       |true=>exact absurd (by simpa using Nat.eq_of_beq_eq_true hb) h];rfl
     ·cases h1:Nat.beq v.cells.toList.length size with
      |false=>rfl
      |true=>
       have e1:v.cells.size=size:=by simpa using Nat.eq_of_beq_eq_true h1
       cases h2:Nat.ble (Nat.add off size) cells.size with
       |false=>rfl
       |true=>exact absurd (Nat.le_of_ble_eq_true h2) (by show ¬ off+size<=cells.size;omega)
    rw [hb];rfl
   ·rw [if_neg (by simpa using h)]
    have h1:v.cells.size=size:=by omega
    have hb:(Nat.beq v.cells.toList.length size &&Nat.ble (Nat.add off size) cells.size)=true:=by
     have e1:v.cells.toList.length=size:=by simpa using h1
     rw [e1,Nat.beq_refl,Nat.ble_eq_true_of_le (show Nat.add off size<=cells.size by show off+size<=cells.size;omega)];rfl
    rw [hb];simp only;rw [ih];have hsz:(v.cells.zipIdx.foldl (fun cs (x:Value×Nat)=>cs.setIfInBounds (off+x.2) x.1) cells).size=cells.size:=by
     rw [←Array.length_toList,hfold,sN,Array.length_toList]
    rw [hsz,hfold]
end Go.Iv
