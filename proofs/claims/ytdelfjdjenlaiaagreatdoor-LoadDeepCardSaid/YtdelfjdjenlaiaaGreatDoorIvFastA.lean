/- The same evaluator in a form that the kernel runs fast (the first part): tables, lists. -/
import Derived.Test.YtdelfjdjenlaiaaGreatDoorIvEval
set_option linter.unusedSimpArgs false
set_option linter.unusedVariables false
namespace Go.Iv
open Go
noncomputable def WR (l:AL):Nat->Value:=@AL.rec (fun _=>Nat->Value) (fun _=>aS) (fun k v _ ih t=>@Bool.rec (fun _=>Value) (ih t) v (Nat.beq k t)) l
theorem Sc (l:AL) (t:Nat):WR l t=lk l t:=by
 induction l with
 |e=>rfl
 |c k v r ih=>
  show @Bool.rec (fun _=>Value) (WR r t) v (Nat.beq k t)=lk (.c k v r) t
  rw [ih];simp only [lk];cases Nat.beq k t<;>rfl
noncomputable def PE (l:AL):Nat->Value->AL:=@AL.rec (fun _=>Nat->Value->AL) (fun d v=> .c d v .e) (fun k u r ih d v=>@Bool.rec (fun _=>AL) (.c k u (ih d v)) (.c d v r) (Nat.beq k d)) l
theorem Kc (l:AL) (d:Nat) (v:Value):PE l d v=My l d v:=by
 induction l with
 |e=>rfl
 |c k u r ih=>
  show @Bool.rec (fun _=>AL) (.c k u (PE r d v)) (.c d v r) (Nat.beq k d)=My (.c k u r) d v
  rw [ih];simp only [My];cases Nat.beq k d<;>rfl
noncomputable def H6 (m i:Nat):Bool:=Nat.beq (Nat.land 1 (Nat.shiftRight m i)) 1
theorem lO (m i:Nat):H6 m i=m.testBit i:=by
 show Nat.beq (1 &&&(m>>>i)) 1=((1 &&&(m>>>i)) !=0)
 rw [Nat.one_and_eq_mod_two];have h:m>>>i%2=0∨m>>>i%2=1:=by omega
 rcases h with h |h<;>rw [h]<;>rfl
noncomputable def N6 (l:List Nat) (t:Nat):Bool:=@List.rec Nat (fun _=>Bool) false (fun k _ ih=>@Bool.rec (fun _=>Bool) ih true (Nat.beq k t)) l
theorem Ux (l:List Nat) (t:Nat):N6 l t=ou l t:=by
 induction l with
 |nil=>rfl
 |cons k l ih=>
  show @Bool.rec (fun _=>Bool) (N6 l t) true (Nat.beq k t)=_
  rw [ih];simp only [ou];cases Nat.beq k t<;>rfl
noncomputable def J1 (fi:FI) (t:Nat):S4:=@Bool.rec (fun _=>S4) (@Bool.rec (fun _=>S4) .tmp .loc (N6 fi.cs t)) .out (Nat.ble fi.nt t)
theorem BX (fi:FI) (t:Nat):J1 fi t=cls fi t:=by
 unfold J1 cls;rw [Ux];cases Nat.ble fi.nt t<;>cases ou fi.cs t<;>rfl
noncomputable def Tq (fi:FI) (E:En) (t:Nat):Value:=@S4.rec (fun _=>Value) aS (WR E.loc t) (WR E.tmp t) (J1 fi t)
theorem KM (fi:FI) (E:En) (t:Nat):Tq fi E t=fw fi E t:=by
 unfold Tq fw;rw [Sc,Sc,BX];cases cls fi t<;>rfl
noncomputable def RA (fi:FI) (d:Nat) (v:Value) (E:En):En:=@S4.rec (fun _=>En) E ⟨PE E.loc d v,E.tmp⟩ ⟨E.loc,.c d v E.tmp⟩ (J1 fi d)
theorem RS (fi:FI) (d:Nat) (v:Value) (E:En):RA fi d v E=nq fi d v E:=by
 unfold RA nq;rw [Kc,BX];cases cls fi d<;>rfl
noncomputable def xj (fi:FI) (E:En) (dst:Option Tmp) (v:Value):En:=@Option.rec Nat (fun _=>En) E (fun d=>RA fi d v E) dst
theorem lW (fi:FI) (E:En) (dst:Option Tmp) (v:Value):xj fi E dst v=c8 fi E dst v:=by
 cases dst with
 |none=>rfl
 |some d=>exact RS fi d v E
noncomputable def UG (g:Nat):Value:=@Bool.rec (fun _=>Value) aS (.pointer (some ⟨g,0,none⟩)) (Nat.ble (Nat.succ g) 32)
noncomputable def TS (v:Value):Value:=@Bool.rec (fun _=>Value) aS v (free v)
def X3 (f:FuncId):Value:= .func (.func f) #[] #[]
noncomputable def GL (fi:FI) (E:En) (x:Operand):Value:=@Operand.rec (fun _=>Value) (Tq fi E) TS UG X3 x
theorem ko (fi:FI) (E:En):GL fi E=dC fi E:=by
 funext x;cases x with
 |tmp t=>exact KM fi E t
 |const v=>
  show TS v=(if free v=true then v else aS)
  unfold TS;cases free v<;>rfl
 |global g=>
  show UG g=(if g<bU then Value.pointer (some ⟨g,0,none⟩) else aS)
  unfold UG;by_cases h:g<bU
  ·rw [if_pos h,Nat.ble_eq_true_of_le (show Nat.succ g<=32 from h)]
  ·rw [if_neg h]
   cases hb:Nat.ble (Nat.succ g) 32 with
   |false=>rfl
   |true=>exact absurd (Nat.le_of_ble_eq_true hb) h
 |func f=>rfl
def PQ:IntKind->Nat
 | .i8=>127 | .i16=>32767 | .i32=>2147483647 | .i64=>9223372036854775807
 | .u8=>255 | .u16=>65535 | .u32=>4294967295 | .u64=>18446744073709551615
theorem OO (k:IntKind) (a:Nat) (h:a<=PQ k):k.wrap (.ofNat a)= .ofNat a:=by
 have e:(Int.ofNat a)=(a:Int):=rfl;rw [e];cases k<;>simp only [PQ] at h<;>simp only [IntKind.wrap,IntKind.bits,IntKind.signed]<;>simp<;>first |omega |(split<;>omega)
noncomputable def DE (k:IntKind) (n:Int):Int:=@Int.rec (fun _=>Int) (fun a=>@Bool.rec (fun _=>Int) (k.wrap (.ofNat a)) (.ofNat a) (Nat.ble a (PQ k))) (fun a=>k.wrap (.negSucc a)) n
theorem Gc (k:IntKind) (n:Int):DE k n=k.wrap n:=by
 cases n with
 |ofNat a=>
  show @Bool.rec (fun _=>Int) (k.wrap (.ofNat a)) (.ofNat a) (Nat.ble a (PQ k))=_
  cases hb:Nat.ble a (PQ k) with
  |false=>rfl
  |true=>exact (OO k a (Nat.le_of_ble_eq_true hb)).symm
 |negSucc a=>rfl
noncomputable def Wr (n m:Int):Int:=@Int.rec (fun _=>Int) (fun a=>@Int.rec (fun _=>Int) (fun b=> .ofNat (Nat.add a b)) (fun b=>Int.add (.ofNat a) (.negSucc b)) m) (fun a=>Int.add (.negSucc a) m) n
theorem Uy (n m:Int):Wr n m=n+m:=by
 cases n<;>cases m<;>rfl
noncomputable def Qh (a b:Bool):Bool:=@Bool.rec (fun _=>Bool) false b a
theorem Kl (a b:Bool):Qh a b=(a &&b):=by cases a<;>rfl
noncomputable def R9 {α:Type} (l:List α):Nat->Option α:=@List.rec α (fun _=>Nat->Option α) (fun _=>none) (fun v _ ih n=>@Nat.rec (fun _=>Option α) (some v) (fun m _=>ih m) n) l
theorem CF {α:Type} (l:List α):∀ n,R9 l n=l[n]? :=by
 induction l with
 |nil=>intro n;rfl
 |cons v l ih=>intro n;cases n with
  |zero=>rfl
  |succ n=>show R9 l n=_;rw [ih];rfl
noncomputable def TA {α:Type} (l:List α):Nat:=@List.rec α (fun _=>Nat) 0 (fun _ _ ih=>Nat.succ ih) l
theorem Tj {α:Type} (l:List α):TA l=l.length:=by
 induction l with
 |nil=>rfl
 |cons v l ih=>show Nat.succ (TA l)=_;rw [ih];rfl
noncomputable def Sz {α:Type} (n:Nat):List α->List α:=@Nat.rec (fun _=>List α->List α) (fun l=>l) (fun _ ih l=>@List.rec α (fun _=>List α) [] (fun _ t _=>ih t) l) n
theorem RG {α:Type} (n:Nat):∀ l:List α,Sz n l=l.drop n:=by
 induction n with
 |zero=>intro l;rfl
 |succ n ih=>intro l;cases l with
  |nil=>rfl
  |cons v l=>show Sz n l=_;rw [ih];rfl
noncomputable def PH {α:Type} (n:Nat):List α->Option (List α):=
 @Nat.rec (fun _=>List α->Option (List α)) (fun _=>some []) (fun _ ih l=>@List.rec α (fun _=>Option (List α)) none (fun v t _=>@Option.rec (List α) (fun _=>Option (List α)) none (fun r=>some (v::r)) (ih t)) l) n
theorem QJ {α:Type} (n:Nat):∀ l:List α,PH n l=if n<=l.length then some (l.take n) else none:=by
 induction n with
 |zero=>intro l;show some []=_;simp
 |succ n ih=>intro l;cases l with
  |nil=>show none=_;simp
  |cons v l=>
   show @Option.rec (List α) (fun _=>Option (List α)) none (fun r=>some (v::r)) (PH n l)=_
   rw [ih];by_cases h:n<=l.length
   ·rw [if_pos h,if_pos (by simp;exact h)];rfl
   ·rw [if_neg h,if_neg (by simp;omega)]
theorem xb (off:Nat) (vs:List Value):ay [] off vs= []:=by
 induction vs generalizing off with
 |nil=>rfl
 |cons v vs ih=>exact ih (off+1)
theorem l8 (c:Value) (cs:List Value) (off:Nat) (vs:List Value):ay (c::cs) (off+1) vs=c::ay cs off vs:=by
 induction vs generalizing cs off with
 |nil=>rfl
 |cons v vs ih=>exact ih (cs.set off v) (off+1)
noncomputable def YG (vs:List Value):List Value->List Value:=
 @List.rec Value (fun _=>List Value->List Value) (fun cs=>cs) (fun v _ ih cs=>@List.rec Value (fun _=>List Value) [] (fun _ t _=>v::ih t) cs) vs
theorem VP (vs:List Value):∀ cs,YG vs cs=ay cs 0 vs:=by
 induction vs with
 |nil=>intro cs;rfl
 |cons v vs ih=>intro cs;cases cs with
  |nil=>exact (xb 0 (v::vs)).symm
  |cons c cs=>show v::YG vs cs=ay (v::cs) 1 vs;rw [ih,l8]
noncomputable def T9 (off:Nat) (vs:List Value):List Value->List Value:=
 @Nat.rec (fun _=>List Value->List Value) (YG vs) (fun _ ih cs=>@List.rec Value (fun _=>List Value) [] (fun c t _=>c::ih t) cs) off
theorem Uq (off:Nat) (vs:List Value):∀ cs,T9 off vs cs=ay cs off vs:=by
 induction off with
 |zero=>exact VP vs
 |succ n ih=>intro cs;cases cs with
  |nil=>exact (xb (n+1) vs).symm
  |cons c cs=>show c::T9 n vs cs=_;rw [ih,l8]
theorem om (vs:List Value):∀ (cs:List Value) (off:Nat),(ay cs off vs).length=cs.length:=by
 induction vs with
 |nil=>intro cs off;rfl
 |cons v vs ih=>intro cs off;show (ay (cs.set off v) (off+1) vs).length=_;rw [ih];simp
noncomputable def WB (off:Nat) (v:Value):List Value->Option (List Value):=
 @Nat.rec (fun _=>List Value->Option (List Value)) (fun cs=>@List.rec Value (fun _=>Option (List Value)) none (fun _ t _=>some (v::t)) cs)
  (fun _ ih cs=>@List.rec Value (fun _=>Option (List Value)) none (fun c t _=>@Option.rec (List Value) (fun _=>Option (List Value)) none (fun r=>some (c::r)) (ih t)) cs) off
theorem Up (off:Nat) (v:Value):∀ cs,WB off v cs=if off+1<=cs.length then some (ay cs off [v]) else none:=by
 induction off with
 |zero=>intro cs;cases cs with
  |nil=>rfl
  |cons c cs=>rw [if_pos (by simp)];rfl
 |succ n ih=>intro cs;cases cs with
  |nil=>rfl
  |cons c cs=>
   show @Option.rec (List Value) (fun _=>Option (List Value)) none (fun r=>some (c::r)) (WB n v cs)=_
   rw [ih];by_cases h:n+1<=cs.length
   ·rw [if_pos h,if_pos (by simp;omega),l8]
   ·rw [if_neg h,if_neg (by simp;omega)]
noncomputable def lP (place:Nat->Option (Nat×Nat)) (n:Nat) (ps:List (Nat×Value)):List Value->Option (List Value):=
 @List.rec (Nat×Value) (fun _=>List Value->Option (List Value)) some
  (fun p _ ih cells=>@Option.rec (Nat×Nat) (fun _=>Option (List Value)) none
   (fun pl=>@Bool.rec (fun _=>Option (List Value)) none (ih (T9 pl.1 p.2.cells.toList cells)) (Qh (Nat.beq (TA p.2.cells.toList) pl.2) (Nat.ble (Nat.add pl.1 pl.2) n))) (place p.1)) ps
theorem gE (off:Nat) (vs:List Value):∀ (k:Nat) (cells:Array Value),((vs.zipIdx k).foldl (fun (cs:Array Value) (x:Value×Nat)=>cs.setIfInBounds (off+x.2) x.1) cells).toList=ay cells.toList (off+k) vs:=by
 induction vs with
 |nil=>intro k cells;rfl
 |cons v vs ih=>
  intro k cells;simp only [List.zipIdx_cons,List.foldl_cons];rw [ih (k+1)];simp only [ay,Array.toList_setIfInBounds];rfl
theorem fill_eq (place:Nat->Option (Nat×Nat)) (ps:List (Nat×Value)):∀ cells:Array Value,Instr.fill place cells ps=(lP place cells.size ps cells.toList).map fun l=>⟨l⟩:=by
 induction ps with
 |nil=>intro cells;rfl
 |cons p ps ih=>
  intro cells;obtain ⟨i,v⟩:=p
  have e:lP place cells.size ((i,v)::ps) cells.toList=@Option.rec (Nat×Nat) (fun _=>Option (List Value)) none
   (fun pl=>@Bool.rec (fun _=>Option (List Value)) none (lP place cells.size ps (T9 pl.1 v.cells.toList cells.toList)) (Qh (Nat.beq (TA v.cells.toList) pl.2) (Nat.ble (Nat.add pl.1 pl.2) cells.size))) (place i):=rfl
  rw [e];simp only [Instr.fill];cases place i with
  |none=>rfl
  |some pl=>
   obtain ⟨off,size⟩:=pl;simp only [Tj,Uq,Kl];have hfold:(v.cells.zipIdx.foldl (fun cs (x:Value×Nat)=>cs.setIfInBounds (off+x.2) x.1) cells).toList=ay cells.toList off v.cells.toList:=by
    have:=gE off v.cells.toList 0 cells;rw [←Array.foldl_toList,Array.toList_zipIdx];exact this
   by_cases h:v.cells.size≠size∨off+v.cells.size>cells.size
   ·rw [if_pos (by simpa using h)]
    have hb:(Nat.beq v.cells.toList.length size &&Nat.ble (Nat.add off size) cells.size)=false:=by
     rcases h with h |h
     ·rw [show Nat.beq v.cells.toList.length size=false from by
       cases hb:Nat.beq v.cells.toList.length size with
       |false=>rfl
       |true=>exact absurd (by simpa using Nat.eq_of_beq_eq_true hb) h];rfl
     ·cases h1:Nat.beq v.cells.toList.length size with
      |false=>rfl
      |true=>
       have e1:v.cells.size=size:=by simpa using Nat.eq_of_beq_eq_true h1
       cases h2:Nat.ble (Nat.add off size) cells.size with
       |false=>rfl
       |true=>exact absurd (Nat.le_of_ble_eq_true h2) (by show ¬ off+size<=cells.size;omega)
    rw [hb];rfl
   ·rw [if_neg (by simpa using h)]
    have h1:v.cells.size=size:=by omega
    have hb:(Nat.beq v.cells.toList.length size &&Nat.ble (Nat.add off size) cells.size)=true:=by
     have e1:v.cells.toList.length=size:=by simpa using h1
     rw [e1,Nat.beq_refl,Nat.ble_eq_true_of_le (show Nat.add off size<=cells.size by show off+size<=cells.size;omega)];rfl
    rw [hb];simp only;rw [ih];have hsz:(v.cells.zipIdx.foldl (fun cs (x:Value×Nat)=>cs.setIfInBounds (off+x.2) x.1) cells).size=cells.size:=by
     rw [←Array.length_toList,hfold,om,Array.length_toList]
    rw [hsz,hfold]
end Go.Iv
