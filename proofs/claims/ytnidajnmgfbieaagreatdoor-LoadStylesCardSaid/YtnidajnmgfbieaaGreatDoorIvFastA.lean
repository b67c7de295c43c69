/- The same evaluator in a form that the kernel runs fast (the first part): tables, lists. -/
import Derived.Test.YtnidajnmgfbieaaGreatDoorIvEval
set_option linter.unusedSimpArgs false
set_option linter.unusedVariables false
namespace Go.Iv
open Go
noncomputable def qf (l:AL):Nat->Value:=@AL.rec (fun _=>Nat->Value) (fun _=>ag) (fun k v _ ih t=>@Bool.rec (fun _=>Value) (ih t) v (Nat.beq k t)) l
theorem mq (l:AL) (t:Nat):qf l t=lk l t:=by
 induction l with
 |e=>rfl
 |c k v r ih=>
  show @Bool.rec (fun _=>Value) (qf r t) v (Nat.beq k t)=lk (.c k v r) t
  rw [ih];simp only [lk];cases Nat.beq k t<;>rfl
noncomputable def mH (l:AL):Nat->Value->AL:=@AL.rec (fun _=>Nat->Value->AL) (fun d v=> .c d v .e) (fun k u r ih d v=>@Bool.rec (fun _=>AL) (.c k u (ih d v)) (.c d v r) (Nat.beq k d)) l
theorem kR (l:AL) (d:Nat) (v:Value):mH l d v=oC l d v:=by
 induction l with
 |e=>rfl
 |c k u r ih=>
  show @Bool.rec (fun _=>AL) (.c k u (mH r d v)) (.c d v r) (Nat.beq k d)=oC (.c k u r) d v
  rw [ih];simp only [oC];cases Nat.beq k d<;>rfl
noncomputable def kv (m i:Nat):Bool:=Nat.beq (Nat.land 1 (Nat.shiftRight m i)) 1
theorem db (m i:Nat):kv m i=m.testBit i:=by
 show Nat.beq (1 &&&(m>>>i)) 1=((1 &&&(m>>>i)) !=0)
 rw [Nat.one_and_eq_mod_two];have h:m>>>i%2=0∨m>>>i%2=1:=by omega
 rcases h with h |h<;>rw [h]<;>rfl
noncomputable def k6 (l:List Nat) (t:Nat):Bool:=@List.rec Nat (fun _=>Bool) false (fun k _ ih=>@Bool.rec (fun _=>Bool) ih true (Nat.beq k t)) l
theorem nF (l:List Nat) (t:Nat):k6 l t=lu l t:=by
 induction l with
 |nil=>rfl
 |cons k l ih=>
  show @Bool.rec (fun _=>Bool) (k6 l t) true (Nat.beq k t)=_
  rw [ih];simp only [lu];cases Nat.beq k t<;>rfl
noncomputable def kn (fi:FI) (t:Nat):ng:=@Bool.rec (fun _=>ng) (@Bool.rec (fun _=>ng) .tmp .loc (k6 fi.cs t)) .out (Nat.ble fi.nt t)
theorem iY (fi:FI) (t:Nat):kn fi t=cls fi t:=by
 unfold kn cls;rw [nF];cases Nat.ble fi.nt t<;>cases lu fi.cs t<;>rfl
noncomputable def nN (fi:FI) (E:En) (t:Nat):Value:=@ng.rec (fun _=>Value) ag (qf E.loc t) (qf E.tmp t) (kn fi t)
theorem kZ (fi:FI) (E:En) (t:Nat):nN fi E t=da fi E t:=by
 unfold nN da;rw [mq,mq,iY];cases cls fi t<;>rfl
noncomputable def lT (fi:FI) (d:Nat) (v:Value) (E:En):En:=@ng.rec (fun _=>En) E ⟨mH E.loc d v,E.tmp⟩ ⟨E.loc,.c d v E.tmp⟩ (kn fi d)
theorem mA (fi:FI) (d:Nat) (v:Value) (E:En):lT fi d v E=iR fi d v E:=by
 unfold lT iR;rw [kR,iY];cases cls fi d<;>rfl
noncomputable def gx (fi:FI) (E:En) (dst:Option Tmp) (v:Value):En:=@Option.rec Nat (fun _=>En) E (fun d=>lT fi d v E) dst
theorem di (fi:FI) (E:En) (dst:Option Tmp) (v:Value):gx fi E dst v=aW fi E dst v:=by
 cases dst with
 |none=>rfl
 |some d=>exact mA fi d v E
noncomputable def nG (g:Nat):Value:=@Bool.rec (fun _=>Value) ag (.pointer (some ⟨g,0,none⟩)) (Nat.ble (Nat.succ g) 32)
noncomputable def nA (v:Value):Value:=@Bool.rec (fun _=>Value) ag v (free v)
def qS (f:FuncId):Value:= .func (.func f) #[] #[]
noncomputable def jJ (fi:FI) (E:En) (x:Operand):Value:=@Operand.rec (fun _=>Value) (nN fi E) nA nG qS x
theorem cS (fi:FI) (E:En):jJ fi E=bY fi E:=by
 funext x;cases x with
 |tmp t=>exact kZ fi E t
 |const v=>
  show nA v=(if free v=true then v else ag)
  unfold nA;cases free v<;>rfl
 |global g=>
  show nG g=(if g<j9 then Value.pointer (some ⟨g,0,none⟩) else ag)
  unfold nG;by_cases h:g<j9
  ·rw [if_pos h,Nat.ble_eq_true_of_le (show Nat.succ g<=32 from h)]
  ·rw [if_neg h]
   cases hb:Nat.ble (Nat.succ g) 32 with
   |false=>rfl
   |true=>exact absurd (Nat.le_of_ble_eq_true hb) h
 |func f=>rfl
def m0:IntKind->Nat
 | .i8=>127 | .i16=>32767 | .i32=>2147483647 | .i64=>9223372036854775807
 | .u8=>255 | .u16=>65535 | .u32=>4294967295 | .u64=>18446744073709551615
theorem m1 (k:IntKind) (a:Nat) (h:a<=m0 k):k.wrap (.ofNat a)= .ofNat a:=by
 have e:(Int.ofNat a)=(a:Int):=rfl;rw [e];cases k<;>simp only [m0] at h<;>simp only [IntKind.wrap,IntKind.bits,IntKind.signed]<;>simp<;>first |omega |(split<;>omega)
noncomputable def jD (k:IntKind) (n:Int):Int:=@Int.rec (fun _=>Int) (fun a=>@Bool.rec (fun _=>Int) (k.wrap (.ofNat a)) (.ofNat a) (Nat.ble a (m0 k))) (fun a=>k.wrap (.negSucc a)) n
theorem jT (k:IntKind) (n:Int):jD k n=k.wrap n:=by
 cases n with
 |ofNat a=>
  show @Bool.rec (fun _=>Int) (k.wrap (.ofNat a)) (.ofNat a) (Nat.ble a (m0 k))=_
  cases hb:Nat.ble a (m0 k) with
  |false=>rfl
  |true=>exact (m1 k a (Nat.le_of_ble_eq_true hb)).symm
 |negSucc a=>rfl
noncomputable def pG (n m:Int):Int:=@Int.rec (fun _=>Int) (fun a=>@Int.rec (fun _=>Int) (fun b=> .ofNat (Nat.add a b)) (fun b=>Int.add (.ofNat a) (.negSucc b)) m) (fun a=>Int.add (.negSucc a) m) n
theorem nJ (n m:Int):pG n m=n+m:=by
 cases n<;>cases m<;>rfl
noncomputable def mo (a b:Bool):Bool:=@Bool.rec (fun _=>Bool) false b a
theorem kT (a b:Bool):mo a b=(a &&b):=by cases a<;>rfl
noncomputable def lY {α:Type} (l:List α):Nat->Option α:=@List.rec α (fun _=>Nat->Option α) (fun _=>none) (fun v _ ih n=>@Nat.rec (fun _=>Option α) (some v) (fun m _=>ih m) n) l
theorem je {α:Type} (l:List α):∀ n,lY l n=l[n]? :=by
 induction l with
 |nil=>intro n;rfl
 |cons v l ih=>intro n;cases n with
  |zero=>rfl
  |succ n=>show lY l n=_;rw [ih];rfl
noncomputable def nV {α:Type} (l:List α):Nat:=@List.rec α (fun _=>Nat) 0 (fun _ _ ih=>Nat.succ ih) l
theorem nI {α:Type} (l:List α):nV l=l.length:=by
 induction l with
 |nil=>rfl
 |cons v l ih=>show Nat.succ (nV l)=_;rw [ih];rfl
noncomputable def my {α:Type} (n:Nat):List α->List α:=@Nat.rec (fun _=>List α->List α) (fun l=>l) (fun _ ih l=>@List.rec α (fun _=>List α) [] (fun _ t _=>ih t) l) n
theorem mn {α:Type} (n:Nat):∀ l:List α,my n l=l.drop n:=by
 induction n with
 |zero=>intro l;rfl
 |succ n ih=>intro l;cases l with
  |nil=>rfl
  |cons v l=>show my n l=_;rw [ih];rfl
noncomputable def lZ {α:Type} (n:Nat):List α->Option (List α):=
 @Nat.rec (fun _=>List α->Option (List α)) (fun _=>some []) (fun _ ih l=>@List.rec α (fun _=>Option (List α)) none (fun v t _=>@Option.rec (List α) (fun _=>Option (List α)) none (fun r=>some (v::r)) (ih t)) l) n
theorem mw {α:Type} (n:Nat):∀ l:List α,lZ n l=if n<=l.length then some (l.take n) else none:=by
 induction n with
 |zero=>intro l;show some []=_;simp
 |succ n ih=>intro l;cases l with
  |nil=>show none=_;simp
  |cons v l=>
   show @Option.rec (List α) (fun _=>Option (List α)) none (fun r=>some (v::r)) (lZ n l)=_
   rw [ih];by_cases h:n<=l.length
   ·rw [if_pos h,if_pos (by simp;exact h)];rfl
   ·rw [if_neg h,if_neg (by simp;omega)]
theorem gr (off:Nat) (vs:List Value):ay [] off vs= []:=by
 induction vs generalizing off with
 |nil=>rfl
 |cons v vs ih=>exact ih (off+1)
theorem dx (c:Value) (cs:List Value) (off:Nat) (vs:List Value):ay (c::cs) (off+1) vs=c::ay cs off vs:=by
 induction vs generalizing cs off with
 |nil=>rfl
 |cons v vs ih=>exact ih (cs.set off v) (off+1)
noncomputable def rD (vs:List Value):List Value->List Value:=
 @List.rec Value (fun _=>List Value->List Value) (fun cs=>cs) (fun v _ ih cs=>@List.rec Value (fun _=>List Value) [] (fun _ t _=>v::ih t) cs) vs
theorem oL (vs:List Value):∀ cs,rD vs cs=ay cs 0 vs:=by
 induction vs with
 |nil=>intro cs;rfl
 |cons v vs ih=>intro cs;cases cs with
  |nil=>exact (gr 0 (v::vs)).symm
  |cons c cs=>show v::rD vs cs=ay (v::cs) 1 vs;rw [ih,dx]
noncomputable def nW (off:Nat) (vs:List Value):List Value->List Value:=
 @Nat.rec (fun _=>List Value->List Value) (rD vs) (fun _ ih cs=>@List.rec Value (fun _=>List Value) [] (fun c t _=>c::ih t) cs) off
theorem m8 (off:Nat) (vs:List Value):∀ cs,nW off vs cs=ay cs off vs:=by
 induction off with
 |zero=>exact oL vs
 |succ n ih=>intro cs;cases cs with
  |nil=>exact (gr (n+1) vs).symm
  |cons c cs=>show c::nW n vs cs=_;rw [ih,dx]
theorem ke (vs:List Value):∀ (cs:List Value) (off:Nat),(ay cs off vs).length=cs.length:=by
 induction vs with
 |nil=>intro cs off;rfl
 |cons v vs ih=>intro cs off;show (ay (cs.set off v) (off+1) vs).length=_;rw [ih];simp
noncomputable def pb (off:Nat) (v:Value):List Value->Option (List Value):=
 @Nat.rec (fun _=>List Value->Option (List Value)) (fun cs=>@List.rec Value (fun _=>Option (List Value)) none (fun _ t _=>some (v::t)) cs)
  (fun _ ih cs=>@List.rec Value (fun _=>Option (List Value)) none (fun c t _=>@Option.rec (List Value) (fun _=>Option (List Value)) none (fun r=>some (c::r)) (ih t)) cs) off
theorem ni (off:Nat) (v:Value):∀ cs,pb off v cs=if off+1<=cs.length then some (ay cs off [v]) else none:=by
 induction off with
 |zero=>intro cs;cases cs with
  |nil=>rfl
  |cons c cs=>rw [if_pos (by simp)];rfl
 |succ n ih=>intro cs;cases cs with
  |nil=>rfl
  |cons c cs=>
   show @Option.rec (List Value) (fun _=>Option (List Value)) none (fun r=>some (c::r)) (pb n v cs)=_
   rw [ih];by_cases h:n+1<=cs.length
   ·rw [if_pos h,if_pos (by simp;omega),dx]
   ·rw [if_neg h,if_neg (by simp;omega)]
noncomputable def dm (place:Nat->Option (Nat×Nat)) (n:Nat) (ps:List (Nat×Value)):List Value->Option (List Value):=
 @List.rec (Nat×Value) (fun _=>List Value->Option (List Value)) some
  (fun p _ ih cells=>@Option.rec (Nat×Nat) (fun _=>Option (List Value)) none
   (fun pl=>@Bool.rec (fun _=>Option (List Value)) none (ih (nW pl.1 p.2.cells.toList cells)) (mo (Nat.beq (nV p.2.cells.toList) pl.2) (Nat.ble (Nat.add pl.1 pl.2) n))) (place p.1)) ps
theorem cu (off:Nat) (vs:List Value):∀ (k:Nat) (cells:Array Value),((vs.zipIdx k).foldl (fun (cs:Array Value) (x:Value×Nat)=>cs.setIfInBounds (off+x.2) x.1) cells).toList=ay cells.toList (off+k) vs:=by
 induction vs with
 |nil=>intro k cells;rfl
 |cons v vs ih=>
  intro k cells;simp only [List.zipIdx_cons,List.foldl_cons];rw [ih (k+1)];simp only [ay,Array.toList_setIfInBounds];rfl
theorem fill_eq (place:Nat->Option (Nat×Nat)) (ps:List (Nat×Value)):∀ cells:Array Value,Instr.fill place cells ps=(dm place cells.size ps cells.toList).map fun l=>⟨l⟩:=by
 induction ps with
 |nil=>intro cells;rfl
 |cons p ps ih=>
  intro cells;obtain ⟨i,v⟩:=p
  have e:dm place cells.size ((i,v)::ps) cells.toList=@Option.rec (Nat×Nat) (fun _=>Option (List Value)) none
   (fun pl=>@Bool.rec (fun _=>Option (List Value)) none (dm place cells.size ps (nW pl.1 v.cells.toList cells.toList)) (mo (Nat.beq (nV v.cells.toList) pl.2) (Nat.ble (Nat.add pl.1 pl.2) cells.size))) (place i):=rfl
  rw [e];simp only [Instr.fill];cases place i with
  |none=>rfl
  |some pl=>
   obtain ⟨off,size⟩:=pl;simp only [nI,m8,kT];have hfold:(v.cells.zipIdx.foldl (fun cs (x:Value×Nat)=>cs.setIfInBounds (off+x.2) x.1) cells).toList=ay cells.toList off v.cells.toList:=by
    have:=cu off v.cells.toList 0 cells;rw [←Array.foldl_toList,Array.toList_zipIdx];exact this
   by_cases h:v.cells.size≠size∨off+v.cells.size>cells.size
   ·rw [if_pos (by simpa using h)]
    have hb:(Nat.beq v.cells.toList.length size &&Nat.ble (Nat.add off size) cells.size)=false:=by
     rcases h with h |h
     ·rw [show Nat.beq v.cells.toList.length size=false from by
       cases hb:Nat.beq v.cells.toList.length size with
       |false=>rfl
       |true=>exact absurd (by simpa using Nat.eq_of_beq_eq_true hb) h];rfl
     ·cases h1:Nat.beq v.cells.toList.length size with
      |false=>rfl
      |true=>
       have e1:v.cells.size=size:=by simpa using Nat.eq_of_beq_eq_true h1
       cases h2:Nat.ble (Nat.add off size) cells.size with
       |false=>rfl
       |true=>exact absurd (Nat.le_of_ble_eq_true h2) (by show ¬ off+size<=cells.size;omega)
    rw [hb];rfl
   ·rw [if_neg (by simpa using h)]
    have h1:v.cells.size=size:=by omega
    have hb:(Nat.beq v.cells.toList.length size &&Nat.ble (Nat.add off size) cells.size)=true:=by
     have e1:v.cells.toList.length=size:=by simpa using h1
     rw [e1,Nat.beq_refl,Nat.ble_eq_true_of_le (show Nat.add off size<=cells.size by show off+size<=cells.size;omega)];rfl
    rw [hb];simp only;rw [ih];have hsz:(v.cells.zipIdx.foldl (fun cs (x:Value×Nat)=>cs.setIfInBounds (off+x.2) x.1) cells).size=cells.size:=by
     rw [←Array.length_toList,hfold,ke,Array.length_toList]
    rw [hsz,hfold]
end Go.Iv
