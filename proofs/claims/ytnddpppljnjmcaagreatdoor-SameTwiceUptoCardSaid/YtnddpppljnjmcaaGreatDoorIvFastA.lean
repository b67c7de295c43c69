/- The same evaluator in a form that the kernel runs fast (the first part): tables, lists. -/
import Derived.Test.YtnddpppljnjmcaaGreatDoorIvEval
set_option linter.unusedSimpArgs false
set_option linter.unusedVariables false
namespace Go.Iv
open Go
noncomputable def lkF (l:AL):Nat→Value:=@AL.rec (fun _=>Nat→Value) (fun _=>poison) (fun k v _ ih t=>@Bool.rec (fun _=>Value) (ih t) v (Nat.beq k t)) l
theorem lkF_eq (l:AL) (t:Nat):lkF l t=lk l t:=by
 induction l with
 |e=>rfl
 |c k v r ih=>
  show @Bool.rec (fun _=>Value) (lkF r t) v (Nat.beq k t)=lk (.c k v r) t
  rw [ih];simp only [lk];cases Nat.beq k t<;>rfl
noncomputable def updF (l:AL):Nat→Value→AL:=@AL.rec (fun _=>Nat→Value→AL) (fun d v=> .c d v .e) (fun k u r ih d v=>@Bool.rec (fun _=>AL) (.c k u (ih d v)) (.c d v r) (Nat.beq k d)) l
theorem updF_eq (l:AL) (d:Nat) (v:Value):updF l d v=upd l d v:=by
 induction l with
 |e=>rfl
 |c k u r ih=>
  show @Bool.rec (fun _=>AL) (.c k u (updF r d v)) (.c d v r) (Nat.beq k d)=upd (.c k u r) d v
  rw [ih];simp only [upd];cases Nat.beq k d<;>rfl
noncomputable def tbF (m i:Nat):Bool:=Nat.beq (Nat.land 1 (Nat.shiftRight m i)) 1
theorem tbF_eq (m i:Nat):tbF m i=m.testBit i:=by
 show Nat.beq (1 &&&(m>>>i)) 1=((1 &&&(m>>>i)) !=0)
 rw [Nat.one_and_eq_mod_two]
 have h:m>>>i%2=0∨m>>>i%2=1:=by omega
 rcases h with h |h<;>rw [h]<;>rfl
noncomputable def memF (l:List Nat) (t:Nat):Bool:=@List.rec Nat (fun _=>Bool) false (fun k _ ih=>@Bool.rec (fun _=>Bool) ih true (Nat.beq k t)) l
theorem memF_eq (l:List Nat) (t:Nat):memF l t=memN l t:=by
 induction l with
 |nil=>rfl
 |cons k l ih=>
  show @Bool.rec (fun _=>Bool) (memF l t) true (Nat.beq k t)=_
  rw [ih];simp only [memN];cases Nat.beq k t<;>rfl
noncomputable def clsF (fi:FI) (t:Nat):Cls:=@Bool.rec (fun _=>Cls) (@Bool.rec (fun _=>Cls) .tmp .loc (memF fi.cs t)) .out (Nat.ble fi.nt t)
theorem clsF_eq (fi:FI) (t:Nat):clsF fi t=cls fi t:=by
 unfold clsF cls;rw [memF_eq];cases Nat.ble fi.nt t<;>cases memN fi.cs t<;>rfl
noncomputable def lkEF (fi:FI) (E:En) (t:Nat):Value:=@Cls.rec (fun _=>Value) poison (lkF E.loc t) (lkF E.tmp t) (clsF fi t)
theorem lkEF_eq (fi:FI) (E:En) (t:Nat):lkEF fi E t=lkE fi E t:=by
 unfold lkEF lkE;rw [lkF_eq,lkF_eq,clsF_eq];cases cls fi t<;>rfl
noncomputable def putEF (fi:FI) (d:Nat) (v:Value) (E:En):En:=@Cls.rec (fun _=>En) E ⟨updF E.loc d v,E.tmp⟩ ⟨E.loc,.c d v E.tmp⟩ (clsF fi d)
theorem putEF_eq (fi:FI) (d:Nat) (v:Value) (E:En):putEF fi d v E=putE fi d v E:=by
 unfold putEF putE;rw [updF_eq,clsF_eq];cases cls fi d<;>rfl
noncomputable def putTF (fi:FI) (E:En) (dst:Option Tmp) (v:Value):En:=@Option.rec Nat (fun _=>En) E (fun d=>putEF fi d v E) dst
theorem putTF_eq (fi:FI) (E:En) (dst:Option Tmp) (v:Value):putTF fi E dst v=putT fi E dst v:=by
 cases dst with
 |none=>rfl
 |some d=>exact putEF_eq fi d v E
noncomputable def gloF (g:Nat):Value:=@Bool.rec (fun _=>Value) poison (.pointer (some ⟨g,0,none⟩)) (Nat.ble (Nat.succ g) 32)
noncomputable def conF (v:Value):Value:=@Bool.rec (fun _=>Value) poison v (free v)
def funF (f:FuncId):Value:= .func (.func f) #[] #[]
noncomputable def opdF (fi:FI) (E:En) (x:Operand):Value:=@Operand.rec (fun _=>Value) (lkEF fi E) conF gloF funF x
theorem opdF_eq (fi:FI) (E:En):opdF fi E=opd fi E:=by
 funext x
 cases x with
 |tmp t=>exact lkEF_eq fi E t
 |const v=>
  show conF v=(if free v=true then v else poison)
  unfold conF
  cases free v<;>rfl
 |global g=>
  show gloF g=(if g<glN then Value.pointer (some ⟨g,0,none⟩) else poison)
  unfold gloF
  by_cases h:g<glN
  ·rw [if_pos h,Nat.ble_eq_true_of_le (show Nat.succ g≤32 from h)]
  ·rw [if_neg h]
   cases hb:Nat.ble (Nat.succ g) 32 with
   |false=>rfl
   |true=>exact absurd (Nat.le_of_ble_eq_true hb) h
 |func f=>rfl
def topF:IntKind→Nat
 | .i8=>127 | .i16=>32767 | .i32=>2147483647 | .i64=>9223372036854775807
 | .u8=>255 | .u16=>65535 | .u32=>4294967295 | .u64=>18446744073709551615
theorem wrap_top (k:IntKind) (a:Nat) (h:a≤topF k):k.wrap (.ofNat a)= .ofNat a:=by
 have e:(Int.ofNat a)=(a:Int):=rfl
 rw [e]
 cases k<;>simp only [topF] at h<;>simp only [IntKind.wrap,IntKind.bits,IntKind.signed]<;>simp<;>first |omega |(split<;>omega)
noncomputable def wrapF (k:IntKind) (n:Int):Int:=@Int.rec (fun _=>Int) (fun a=>@Bool.rec (fun _=>Int) (k.wrap (.ofNat a)) (.ofNat a) (Nat.ble a (topF k))) (fun a=>k.wrap (.negSucc a)) n
theorem wrapF_eq (k:IntKind) (n:Int):wrapF k n=k.wrap n:=by
 cases n with
 |ofNat a=>
  show @Bool.rec (fun _=>Int) (k.wrap (.ofNat a)) (.ofNat a) (Nat.ble a (topF k))=_
  cases hb:Nat.ble a (topF k) with
  |false=>rfl
  |true=>exact (wrap_top k a (Nat.le_of_ble_eq_true hb)).symm
 |negSucc a=>rfl
noncomputable def addI (n m:Int):Int:=@Int.rec (fun _=>Int) (fun a=>@Int.rec (fun _=>Int) (fun b=> .ofNat (Nat.add a b)) (fun b=>Int.add (.ofNat a) (.negSucc b)) m) (fun a=>Int.add (.negSucc a) m) n
theorem addI_eq (n m:Int):addI n m=n+m:=by
 cases n<;>cases m<;>rfl
noncomputable def andF (a b:Bool):Bool:=@Bool.rec (fun _=>Bool) false b a
theorem andF_eq (a b:Bool):andF a b=(a &&b):=by cases a<;>rfl
noncomputable def nthF {α:Type} (l:List α):Nat→Option α:=@List.rec α (fun _=>Nat→Option α) (fun _=>none) (fun v _ ih n=>@Nat.rec (fun _=>Option α) (some v) (fun m _=>ih m) n) l
theorem nthF_eq {α:Type} (l:List α):∀ n,nthF l n=l[n]? :=by
 induction l with
 |nil=>intro n;rfl
 |cons v l ih=>intro n;cases n with
  |zero=>rfl
  |succ n=>show nthF l n=_;rw [ih];rfl
noncomputable def lenF {α:Type} (l:List α):Nat:=@List.rec α (fun _=>Nat) 0 (fun _ _ ih=>Nat.succ ih) l
theorem lenF_eq {α:Type} (l:List α):lenF l=l.length:=by
 induction l with
 |nil=>rfl
 |cons v l ih=>show Nat.succ (lenF l)=_;rw [ih];rfl
noncomputable def dropF {α:Type} (n:Nat):List α→List α:=@Nat.rec (fun _=>List α→List α) (fun l=>l) (fun _ ih l=>@List.rec α (fun _=>List α) [] (fun _ t _=>ih t) l) n
theorem dropF_eq {α:Type} (n:Nat):∀ l:List α,dropF n l=l.drop n:=by
 induction n with
 |zero=>intro l;rfl
 |succ n ih=>intro l;cases l with
  |nil=>rfl
  |cons v l=>show dropF n l=_;rw [ih];rfl
noncomputable def takeE {α:Type} (n:Nat):List α→Option (List α):=
 @Nat.rec (fun _=>List α→Option (List α)) (fun _=>some []) (fun _ ih l=>@List.rec α (fun _=>Option (List α)) none (fun v t _=>@Option.rec (List α) (fun _=>Option (List α)) none (fun r=>some (v::r)) (ih t)) l) n
theorem takeE_eq {α:Type} (n:Nat):∀ l:List α,takeE n l=if n≤l.length then some (l.take n) else none:=by
 induction n with
 |zero=>intro l;show some []=_;simp
 |succ n ih=>intro l;cases l with
  |nil=>show none=_;simp
  |cons v l=>
   show @Option.rec (List α) (fun _=>Option (List α)) none (fun r=>some (v::r)) (takeE n l)=_
   rw [ih]
   by_cases h:n≤l.length
   ·rw [if_pos h,if_pos (by simp;exact h)];rfl
   ·rw [if_neg h,if_neg (by simp;omega)]
theorem setRun_nil (off:Nat) (vs:List Value):setRun [] off vs= []:=by
 induction vs generalizing off with
 |nil=>rfl
 |cons v vs ih=>exact ih (off+1)
theorem setRun_cons (c:Value) (cs:List Value) (off:Nat) (vs:List Value):setRun (c::cs) (off+1) vs=c::setRun cs off vs:=by
 induction vs generalizing cs off with
 |nil=>rfl
 |cons v vs ih=>exact ih (cs.set off v) (off+1)
noncomputable def ovF (vs:List Value):List Value→List Value:=
 @List.rec Value (fun _=>List Value→List Value) (fun cs=>cs) (fun v _ ih cs=>@List.rec Value (fun _=>List Value) [] (fun _ t _=>v::ih t) cs) vs
theorem ovF_eq (vs:List Value):∀ cs,ovF vs cs=setRun cs 0 vs:=by
 induction vs with
 |nil=>intro cs;rfl
 |cons v vs ih=>intro cs;cases cs with
  |nil=>exact (setRun_nil 0 (v::vs)).symm
  |cons c cs=>show v::ovF vs cs=setRun (v::cs) 1 vs;rw [ih,setRun_cons]
noncomputable def splF (off:Nat) (vs:List Value):List Value→List Value:=
 @Nat.rec (fun _=>List Value→List Value) (ovF vs) (fun _ ih cs=>@List.rec Value (fun _=>List Value) [] (fun c t _=>c::ih t) cs) off
theorem splF_eq (off:Nat) (vs:List Value):∀ cs,splF off vs cs=setRun cs off vs:=by
 induction off with
 |zero=>exact ovF_eq vs
 |succ n ih=>intro cs;cases cs with
  |nil=>exact (setRun_nil (n+1) vs).symm
  |cons c cs=>show c::splF n vs cs=_;rw [ih,setRun_cons]
theorem setRun_len (vs:List Value):∀ (cs:List Value) (off:Nat),(setRun cs off vs).length=cs.length:=by
 induction vs with
 |nil=>intro cs off;rfl
 |cons v vs ih=>intro cs off;show (setRun (cs.set off v) (off+1) vs).length=_;rw [ih];simp
noncomputable def set1 (off:Nat) (v:Value):List Value→Option (List Value):=
 @Nat.rec (fun _=>List Value→Option (List Value)) (fun cs=>@List.rec Value (fun _=>Option (List Value)) none (fun _ t _=>some (v::t)) cs)
  (fun _ ih cs=>@List.rec Value (fun _=>Option (List Value)) none (fun c t _=>@Option.rec (List Value) (fun _=>Option (List Value)) none (fun r=>some (c::r)) (ih t)) cs) off
theorem set1_eq (off:Nat) (v:Value):∀ cs,set1 off v cs=if off+1≤cs.length then some (setRun cs off [v]) else none:=by
 induction off with
 |zero=>intro cs;cases cs with
  |nil=>rfl
  |cons c cs=>rw [if_pos (by simp)];rfl
 |succ n ih=>intro cs;cases cs with
  |nil=>rfl
  |cons c cs=>
   show @Option.rec (List Value) (fun _=>Option (List Value)) none (fun r=>some (c::r)) (set1 n v cs)=_
   rw [ih]
   by_cases h:n+1≤cs.length
   ·rw [if_pos h,if_pos (by simp;omega),setRun_cons]
   ·rw [if_neg h,if_neg (by simp;omega)]
noncomputable def fillF (place:Nat→Option (Nat×Nat)) (n:Nat) (ps:List (Nat×Value)):List Value→Option (List Value):=
 @List.rec (Nat×Value) (fun _=>List Value→Option (List Value)) some
  (fun p _ ih cells=>@Option.rec (Nat×Nat) (fun _=>Option (List Value)) none
   (fun pl=>@Bool.rec (fun _=>Option (List Value)) none (ih (splF pl.1 p.2.cells.toList cells)) (andF (Nat.beq (lenF p.2.cells.toList) pl.2) (Nat.ble (Nat.add pl.1 pl.2) n))) (place p.1)) ps
theorem fold_setRun (off:Nat) (vs:List Value):∀ (k:Nat) (cells:Array Value),((vs.zipIdx k).foldl (fun (cs:Array Value) (x:Value×Nat)=>cs.setIfInBounds (off+x.2) x.1) cells).toList=setRun cells.toList (off+k) vs:=by
 induction vs with
 |nil=>intro k cells;rfl
 |cons v vs ih=>
  intro k cells
  simp only [List.zipIdx_cons,List.foldl_cons]
  rw [ih (k+1)]
  simp only [setRun,Array.toList_setIfInBounds]
  rfl
theorem fill_eq (place:Nat→Option (Nat×Nat)) (ps:List (Nat×Value)):∀ cells:Array Value,Instr.fill place cells ps=(fillF place cells.size ps cells.toList).map fun l=> ⟨l⟩:=by
 induction ps with
 |nil=>intro cells;rfl
 |cons p ps ih=>
  intro cells
  obtain ⟨i,v⟩:=p
  have e:fillF place cells.size ((i,v)::ps) cells.toList=@Option.rec (Nat×Nat) (fun _=>Option (List Value)) none
   (fun pl=>@Bool.rec (fun _=>Option (List Value)) none (fillF place cells.size ps (splF pl.1 v.cells.toList cells.toList)) (andF (Nat.beq (lenF v.cells.toList) pl.2) (Nat.ble (Nat.add pl.1 pl.2) cells.size))) (place i):=rfl
  rw [e]
  simp only [Instr.fill]
  cases place i with
  |none=>rfl
  |some pl=>
   obtain ⟨off,size⟩:=pl
   simp only [lenF_eq,splF_eq,andF_eq]
   have hfold:(v.cells.zipIdx.foldl (fun cs (x:Value×Nat)=>cs.setIfInBounds (off+x.2) x.1) cells).toList=setRun cells.toList off v.cells.toList:=by
    have:=fold_setRun off v.cells.toList 0 cells
    rw [←Array.foldl_toList,Array.toList_zipIdx]
    exact this
   by_cases h:v.cells.size≠size∨off+v.cells.size>cells.size
   ·rw [if_pos (by simpa using h)]
    have hb:(Nat.beq v.cells.toList.length size &&Nat.ble (Nat.add off size) cells.size)=false:=by
     rcases h with h |h
     ·rw [show Nat.beq v.cells.toList.length size=false from by
       cases hb:Nat.beq v.cells.toList.length size with
       |false=>rfl
       |true=>exact absurd (by simpa using Nat.eq_of_beq_eq_true hb) h];rfl
     ·cases h1:Nat.beq v.cells.toList.length size with
      |false=>rfl
      |true=>
       have e1:v.cells.size=size:=by simpa using Nat.eq_of_beq_eq_true h1
       cases h2:Nat.ble (Nat.add off size) cells.size with
       |false=>rfl
       |true=>exact absurd (Nat.le_of_ble_eq_true h2) (by show ¬ off+size≤cells.size;omega)
    rw [hb];rfl
   ·rw [if_neg (by simpa using h)]
    have h1:v.cells.size=size:=by omega
    have hb:(Nat.beq v.cells.toList.length size &&Nat.ble (Nat.add off size) cells.size)=true:=by
     have e1:v.cells.toList.length=size:=by simpa using h1
     rw [e1,Nat.beq_refl,Nat.ble_eq_true_of_le (show Nat.add off size≤cells.size by show off+size≤cells.size;omega)];rfl
    rw [hb]
    simp only
    rw [ih]
    have hsz:(v.cells.zipIdx.foldl (fun cs (x:Value×Nat)=>cs.setIfInBounds (off+x.2) x.1) cells).size=cells.size:=by
     rw [←Array.length_toList,hfold,setRun_len,Array.length_toList]
    rw [hsz,hfold]
end Go.Iv
