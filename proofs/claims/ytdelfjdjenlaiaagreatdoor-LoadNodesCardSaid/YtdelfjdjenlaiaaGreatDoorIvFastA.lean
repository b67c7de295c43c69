/- The same evaluator in a form that the kernel runs fast (the first part): tables, lists. -/
import Derived.Test.YtdelfjdjenlaiaaGreatDoorIvEval
set_option linter.unusedSimpArgs false
set_option linter.unusedVariables false
namespace Go.Iv
open Go
noncomputable def WI (l:AL):Nat->Value:=@AL.rec (fun _=>Nat->Value) (fun _=>aS) (fun k v _ ih t=>@Bool.rec (fun _=>Value) (ih t) v (Nat.beq k t)) l
theorem QU (l:AL) (t:Nat):WI l t=lk l t:=by
 induction l with
 |e=>rfl
 |c k v r ih=>
  show @Bool.rec (fun _=>Value) (WI r t) v (Nat.beq k t)=lk (.c k v r) t
  rw [ih];simp only [lk];cases Nat.beq k t<;>rfl
noncomputable def Rw (l:AL):Nat->Value->AL:=@AL.rec (fun _=>Nat->Value->AL) (fun d v=> .c d v .e) (fun k u r ih d v=>@Bool.rec (fun _=>AL) (.c k u (ih d v)) (.c d v r) (Nat.beq k d)) l
theorem KN (l:AL) (d:Nat) (v:Value):Rw l d v=MY l d v:=by
 induction l with
 |e=>rfl
 |c k u r ih=>
  show @Bool.rec (fun _=>AL) (.c k u (Rw r d v)) (.c d v r) (Nat.beq k d)=MY (.c k u r) d v
  rw [ih];simp only [MY];cases Nat.beq k d<;>rfl
noncomputable def IJ (m i:Nat):Bool:=Nat.beq (Nat.land 1 (Nat.shiftRight m i)) 1
theorem lz (m i:Nat):IJ m i=m.testBit i:=by
 show Nat.beq (1 &&&(m>>>i)) 1=((1 &&&(m>>>i)) !=0)
 rw [Nat.one_and_eq_mod_two];have h:m>>>i%2=0∨m>>>i%2=1:=by omega
 rcases h with h |h<;>rw [h]<;>rfl
noncomputable def Mv (l:List Nat) (t:Nat):Bool:=@List.rec Nat (fun _=>Bool) false (fun k _ ih=>@Bool.rec (fun _=>Bool) ih true (Nat.beq k t)) l
theorem Ug (l:List Nat) (t:Nat):Mv l t=oA l t:=by
 induction l with
 |nil=>rfl
 |cons k l ih=>
  show @Bool.rec (fun _=>Bool) (Mv l t) true (Nat.beq k t)=_
  rw [ih];simp only [oA];cases Nat.beq k t<;>rfl
noncomputable def Ie (fi:FI) (t:Nat):TW:=@Bool.rec (fun _=>TW) (@Bool.rec (fun _=>TW) .tmp .loc (Mv fi.cs t)) .out (Nat.ble fi.nt t)
theorem CM (fi:FI) (t:Nat):Ie fi t=cls fi t:=by
 unfold Ie cls;rw [Ug];cases Nat.ble fi.nt t<;>cases oA fi.cs t<;>rfl
noncomputable def SN (fi:FI) (E:En) (t:Nat):Value:=@TW.rec (fun _=>Value) aS (WI E.loc t) (WI E.tmp t) (Ie fi t)
theorem LQ (fi:FI) (E:En) (t:Nat):SN fi E t=fp fi E t:=by
 unfold SN fp;rw [QU,QU,CM];cases cls fi t<;>rfl
noncomputable def Pn (fi:FI) (d:Nat) (v:Value) (E:En):En:=@TW.rec (fun _=>En) E ⟨Rw E.loc d v,E.tmp⟩ ⟨E.loc,.c d v E.tmp⟩ (Ie fi d)
theorem OA (fi:FI) (d:Nat) (v:Value) (E:En):Pn fi d v E=nc fi d v E:=by
 unfold Pn nc;rw [KN,CM];cases cls fi d<;>rfl
noncomputable def vv (fi:FI) (E:En) (dst:Option Tmp) (v:Value):En:=@Option.rec Nat (fun _=>En) E (fun d=>Pn fi d v E) dst
theorem l4 (fi:FI) (E:En) (dst:Option Tmp) (v:Value):vv fi E dst v=cY fi E dst v:=by
 cases dst with
 |none=>rfl
 |some d=>exact OA fi d v E
noncomputable def Ur (g:Nat):Value:=@Bool.rec (fun _=>Value) aS (.pointer (some ⟨g,0,none⟩)) (Nat.ble (Nat.succ g) 32)
noncomputable def UE (v:Value):Value:=@Bool.rec (fun _=>Value) aS v (free v)
def Xs (f:FuncId):Value:= .func (.func f) #[] #[]
noncomputable def Hu (fi:FI) (E:En) (x:Operand):Value:=@Operand.rec (fun _=>Value) (SN fi E) UE Ur Xs x
theorem kF (fi:FI) (E:En):Hu fi E=dy fi E:=by
 funext x;cases x with
 |tmp t=>exact LQ fi E t
 |const v=>
  show UE v=(if free v=true then v else aS)
  unfold UE;cases free v<;>rfl
 |global g=>
  show Ur g=(if g<bQ then Value.pointer (some ⟨g,0,none⟩) else aS)
  unfold Ur;by_cases h:g<bQ
  ·rw [if_pos h,Nat.ble_eq_true_of_le (show Nat.succ g<=32 from h)]
  ·rw [if_neg h]
   cases hb:Nat.ble (Nat.succ g) 32 with
   |false=>rfl
   |true=>exact absurd (Nat.le_of_ble_eq_true hb) h
 |func f=>rfl
def O7:IntKind->Nat
 | .i8=>127 | .i16=>32767 | .i32=>2147483647 | .i64=>9223372036854775807
 | .u8=>255 | .u16=>65535 | .u32=>4294967295 | .u64=>18446744073709551615
theorem PI (k:IntKind) (a:Nat) (h:a<=O7 k):k.wrap (.ofNat a)= .ofNat a:=by
 have e:(Int.ofNat a)=(a:Int):=rfl;rw [e];cases k<;>simp only [O7] at h<;>simp only [IntKind.wrap,IntKind.bits,IntKind.signed]<;>simp<;>first |omega |(split<;>omega)
noncomputable def Gz (k:IntKind) (n:Int):Int:=@Int.rec (fun _=>Int) (fun a=>@Bool.rec (fun _=>Int) (k.wrap (.ofNat a)) (.ofNat a) (Nat.ble a (O7 k))) (fun a=>k.wrap (.negSucc a)) n
theorem Eo (k:IntKind) (n:Int):Gz k n=k.wrap n:=by
 cases n with
 |ofNat a=>
  show @Bool.rec (fun _=>Int) (k.wrap (.ofNat a)) (.ofNat a) (Nat.ble a (O7 k))=_
  cases hb:Nat.ble a (O7 k) with
  |false=>rfl
  |true=>exact (PI k a (Nat.le_of_ble_eq_true hb)).symm
 |negSucc a=>rfl
noncomputable def Vv (n m:Int):Int:=@Int.rec (fun _=>Int) (fun a=>@Int.rec (fun _=>Int) (fun b=> .ofNat (Nat.add a b)) (fun b=>Int.add (.ofNat a) (.negSucc b)) m) (fun a=>Int.add (.negSucc a) m) n
theorem TN (n m:Int):Vv n m=n+m:=by
 cases n<;>cases m<;>rfl
noncomputable def Qp (a b:Bool):Bool:=@Bool.rec (fun _=>Bool) false b a
theorem Lk (a b:Bool):Qp a b=(a &&b):=by cases a<;>rfl
noncomputable def So {α:Type} (l:List α):Nat->Option α:=@List.rec α (fun _=>Nat->Option α) (fun _=>none) (fun v _ ih n=>@Nat.rec (fun _=>Option α) (some v) (fun m _=>ih m) n) l
theorem CZ {α:Type} (l:List α):∀ n,So l n=l[n]? :=by
 induction l with
 |nil=>intro n;rfl
 |cons v l ih=>intro n;cases n with
  |zero=>rfl
  |succ n=>show So l n=_;rw [ih];rfl
noncomputable def T5 {α:Type} (l:List α):Nat:=@List.rec α (fun _=>Nat) 0 (fun _ _ ih=>Nat.succ ih) l
theorem Tv {α:Type} (l:List α):T5 l=l.length:=by
 induction l with
 |nil=>rfl
 |cons v l ih=>show Nat.succ (T5 l)=_;rw [ih];rfl
noncomputable def Sk {α:Type} (n:Nat):List α->List α:=@Nat.rec (fun _=>List α->List α) (fun l=>l) (fun _ ih l=>@List.rec α (fun _=>List α) [] (fun _ t _=>ih t) l) n
theorem Pz {α:Type} (n:Nat):∀ l:List α,Sk n l=l.drop n:=by
 induction n with
 |zero=>intro l;rfl
 |succ n ih=>intro l;cases l with
  |nil=>rfl
  |cons v l=>show Sk n l=_;rw [ih];rfl
noncomputable def Q5 {α:Type} (n:Nat):List α->Option (List α):=
 @Nat.rec (fun _=>List α->Option (List α)) (fun _=>some []) (fun _ ih l=>@List.rec α (fun _=>Option (List α)) none (fun v t _=>@Option.rec (List α) (fun _=>Option (List α)) none (fun r=>some (v::r)) (ih t)) l) n
theorem Q0 {α:Type} (n:Nat):∀ l:List α,Q5 n l=if n<=l.length then some (l.take n) else none:=by
 induction n with
 |zero=>intro l;show some []=_;simp
 |succ n ih=>intro l;cases l with
  |nil=>show none=_;simp
  |cons v l=>
   show @Option.rec (List α) (fun _=>Option (List α)) none (fun r=>some (v::r)) (Q5 n l)=_
   rw [ih];by_cases h:n<=l.length
   ·rw [if_pos h,if_pos (by simp;exact h)];rfl
   ·rw [if_neg h,if_neg (by simp;omega)]
theorem wQ (off:Nat) (vs:List Value):ay [] off vs= []:=by
 induction vs generalizing off with
 |nil=>rfl
 |cons v vs ih=>exact ih (off+1)
theorem lu (c:Value) (cs:List Value) (off:Nat) (vs:List Value):ay (c::cs) (off+1) vs=c::ay cs off vs:=by
 induction vs generalizing cs off with
 |nil=>rfl
 |cons v vs ih=>exact ih (cs.set off v) (off+1)
noncomputable def Yl (vs:List Value):List Value->List Value:=
 @List.rec Value (fun _=>List Value->List Value) (fun cs=>cs) (fun v _ ih cs=>@List.rec Value (fun _=>List Value) [] (fun _ t _=>v::ih t) cs) vs
theorem VN (vs:List Value):∀ cs,Yl vs cs=ay cs 0 vs:=by
 induction vs with
 |nil=>intro cs;rfl
 |cons v vs ih=>intro cs;cases cs with
  |nil=>exact (wQ 0 (v::vs)).symm
  |cons c cs=>show v::Yl vs cs=ay (v::cs) 1 vs;rw [ih,lu]
noncomputable def SH (off:Nat) (vs:List Value):List Value->List Value:=
 @Nat.rec (fun _=>List Value->List Value) (Yl vs) (fun _ ih cs=>@List.rec Value (fun _=>List Value) [] (fun c t _=>c::ih t) cs) off
theorem Ui (off:Nat) (vs:List Value):∀ cs,SH off vs cs=ay cs off vs:=by
 induction off with
 |zero=>exact VN vs
 |succ n ih=>intro cs;cases cs with
  |nil=>exact (wQ (n+1) vs).symm
  |cons c cs=>show c::SH n vs cs=_;rw [ih,lu]
theorem oE (vs:List Value):∀ (cs:List Value) (off:Nat),(ay cs off vs).length=cs.length:=by
 induction vs with
 |nil=>intro cs off;rfl
 |cons v vs ih=>intro cs off;show (ay (cs.set off v) (off+1) vs).length=_;rw [ih];simp
noncomputable def Vx (off:Nat) (v:Value):List Value->Option (List Value):=
 @Nat.rec (fun _=>List Value->Option (List Value)) (fun cs=>@List.rec Value (fun _=>Option (List Value)) none (fun _ t _=>some (v::t)) cs)
  (fun _ ih cs=>@List.rec Value (fun _=>Option (List Value)) none (fun c t _=>@Option.rec (List Value) (fun _=>Option (List Value)) none (fun r=>some (c::r)) (ih t)) cs) off
theorem Ud (off:Nat) (v:Value):∀ cs,Vx off v cs=if off+1<=cs.length then some (ay cs off [v]) else none:=by
 induction off with
 |zero=>intro cs;cases cs with
  |nil=>rfl
  |cons c cs=>rw [if_pos (by simp)];rfl
 |succ n ih=>intro cs;cases cs with
  |nil=>rfl
  |cons c cs=>
   show @Option.rec (List Value) (fun _=>Option (List Value)) none (fun r=>some (c::r)) (Vx n v cs)=_
   rw [ih];by_cases h:n+1<=cs.length
   ·rw [if_pos h,if_pos (by simp;omega),lu]
   ·rw [if_neg h,if_neg (by simp;omega)]
noncomputable def mi (place:Nat->Option (Nat×Nat)) (n:Nat) (ps:List (Nat×Value)):List Value->Option (List Value):=
 @List.rec (Nat×Value) (fun _=>List Value->Option (List Value)) some
  (fun p _ ih cells=>@Option.rec (Nat×Nat) (fun _=>Option (List Value)) none
   (fun pl=>@Bool.rec (fun _=>Option (List Value)) none (ih (SH pl.1 p.2.cells.toList cells)) (Qp (Nat.beq (T5 p.2.cells.toList) pl.2) (Nat.ble (Nat.add pl.1 pl.2) n))) (place p.1)) ps
theorem gJ (off:Nat) (vs:List Value):∀ (k:Nat) (cells:Array Value),((vs.zipIdx k).foldl (fun (cs:Array Value) (x:Value×Nat)=>cs.setIfInBounds (off+x.2) x.1) cells).toList=ay cells.toList (off+k) vs:=by
 induction vs with
 |nil=>intro k cells;rfl
 |cons v vs ih=>
  intro k cells;simp only [List.zipIdx_cons,List.foldl_cons];rw [ih (k+1)];simp only [ay,Array.toList_setIfInBounds];rfl
theorem fill_eq (place:Nat->Option (Nat×Nat)) (ps:List (Nat×Value)):∀ cells:Array Value,Instr.fill place cells ps=(mi place cells.size ps cells.toList).map fun l=>⟨l⟩:=by
 induction ps with
 |nil=>intro cells;rfl
 |cons p ps ih=>
  intro cells;obtain ⟨i,v⟩:=p
  have e:mi place cells.size ((i,v)::ps) cells.toList=@Option.rec (Nat×Nat) (fun _=>Option (List Value)) none
   (fun pl=>@Bool.rec (fun _=>Option (List Value)) none (mi place cells.size ps (SH pl.1 v.cells.toList cells.toList)) (Qp (Nat.beq (T5 v.cells.toList) pl.2) (Nat.ble (Nat.add pl.1 pl.2) cells.size))) (place i):=rfl
  rw [e];simp only [Instr.fill];cases place i with
  |none=>rfl
  |some pl=>
   obtain ⟨off,size⟩:=pl;simp only [Tv,Ui,Lk];have hfold:(v.cells.zipIdx.foldl (fun cs (x:Value×Nat)=>cs.setIfInBounds (off+x.2) x.1) cells).toList=ay cells.toList off v.cells.toList:=by
    have:=gJ off v.cells.toList 0 cells;rw [←Array.foldl_toList,Array.toList_zipIdx];exact this
   by_cases h:v.cells.size≠size∨off+v.cells.size>cells.size
   ·rw [if_pos (by simpa using h)]
    have hb:(Nat.beq v.cells.toList.length size &&Nat.ble (Nat.add off size) cells.size)=false:=by
     rcases h with h |h
     ·rw [show Nat.beq v.cells.toList.length size=false from by
       cases hb:Nat.beq v.cells.toList.length size with
       |false=>rfl
       |true=>exact absurd (by simpa using Nat.eq_of_beq_eq_true hb) h];rfl
     ·cases h1:Nat.beq v.cells.toList.length size with
      |false=>rfl
      |true=>
       have e1:v.cells.size=size:=by simpa using Nat.eq_of_beq_eq_true h1
       cases h2:Nat.ble (Nat.add off size) cells.size with
       |false=>rfl
       |true=>exact absurd (Nat.le_of_ble_eq_true h2) (by show ¬ off+size<=cells.size;omega)
    rw [hb];rfl
   ·rw [if_neg (by simpa using h)]
    have h1:v.cells.size=size:=by omega
    have hb:(Nat.beq v.cells.toList.length size &&Nat.ble (Nat.add off size) cells.size)=true:=by
     have e1:v.cells.toList.length=size:=by simpa using h1
     rw [e1,Nat.beq_refl,Nat.ble_eq_true_of_le (show Nat.add off size<=cells.size by show off+size<=cells.size;omega)];rfl
    rw [hb];simp only;rw [ih];have hsz:(v.cells.zipIdx.foldl (fun cs (x:Value×Nat)=>cs.setIfInBounds (off+x.2) x.1) cells).size=cells.size:=by
     rw [←Array.length_toList,hfold,oE,Array.length_toList]
    rw [hsz,hfold]
end Go.Iv
