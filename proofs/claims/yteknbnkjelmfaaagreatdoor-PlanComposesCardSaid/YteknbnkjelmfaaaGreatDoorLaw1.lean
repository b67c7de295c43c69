/- Law 5: numbers without noughts at their ends. -/
import Derived.Test.YteknbnkjelmfaaaGreatDoorLaw
import Derived.Lib.ValidLaws
import Derived.Lib.TrimUEq
import Derived.Lib.ItoaLen
set_option linter.unusedSimpArgs false
set_option linter.unusedVariables false
set_option maxRecDepth 200000
namespace Go.Proofs.YteknbnkjelmfaaaGreatDoor.V
open Go Go.Iv Go.Gv
abbrev Kd:=Bool×(List UInt8×co)
def D3 (b:Bool):Kd:=(b,([48],(0,0)))
def tl (d:List UInt8):List UInt8:=d.dropWhile (· ==48)
def norm (b:Bool) (d:List UInt8) (e:Int):Kd:=
 bif (dX (tl d)).isEmpty then D3 b else (b,(dX (tl d),(e+(len (tl d) - len (dX (tl d))),0)))
theorem fS (l:List UInt8):(l==([]:List UInt8))=l.isEmpty:=by cases l<;>rfl
theorem FF (d:List UInt8):(tl d).length<=d.length:=(List.dropWhile_suffix (· ==(48:UInt8)) (l:=d)).length_le
theorem TH {α:Type} (b:Bool) (f:Bool->Option α):(Option.bind (bif b then some Bool.true else some Bool.false) f)=f b:=by cases b<;>rfl
theorem vu (n:Nat) (b:Bool) (d:List UInt8) (e:Int) (h1: -1000000000000<=e) (h2:e<=1000000000000) (hs:d.length<=1000000) (hn:d.length<=n):
  whole n b d e=some (norm b d e,()):=by
 have l1:=FF d;have l2:=I4 (tl d);unfold whole;simp only [TH,fS];cases h:d.isEmpty with
 |true=>
  have:d= []:=by cases d with
   |nil=>rfl
   |cons=>cases h
  subst this;rfl
 |false=>
  simp only [zab];rw [jd n d 48 hn];simp only [zaa]
  show (bif (tl d).isEmpty then _ else _)=_
  change (bif (tl d).isEmpty then (bif (tl d).isEmpty then some (D3 b,()) else some ((b,(tl d,(_,0))),())) else Option.bind (dJ n (tl d) 48) _)=_
  cases h3:(tl d).isEmpty with
  |true=>
   have:tl d= []:=by cases h4:tl d with
    |nil=>rfl
    |cons=>rw [h4] at h3;cases h3
   simp only [zac];unfold norm;rw [this];rfl
  |false=>
   simp only [zab];rw [nP n (tl d) (by omega) (by omega)];simp only [zaa];unfold norm;have w1:zao (e+len (tl d))=e+len (tl d):=by unfold len;rw [aj]<;>omega
   have w2:zao (e+len (tl d) - len (dX (tl d)))=e+(len (tl d) - len (dX (tl d))):=by unfold len;rw [aj]<;>omega
   have hd:List.dropWhile (fun x=>x==48) d=tl d:=rfl;rw [hd,w1,w2];cases (dX (tl d)).isEmpty<;>rfl
def strip:List UInt8->List UInt8
 | []=> []
 | [x]=> [x]
 |x::y::r=>bif x==48 then strip (y::r) else x::y::r
theorem FK (a:Bool) (e:Int) (c0:Bool) (c1:List UInt8) (c2 c3:Int):∀ (s:List UInt8) (n:Nat),s.length+1<=n->
  Dk n a s e c0 c1 c2 c3=some ((a,(strip s,(e,((),())))),((c0,(c1,(c2,(c3,())))),())):=by
 intro s
 induction s with
 |nil=>
  intro n h;obtain ⟨n,rfl⟩:=pS n;rfl
 |cons x r ih=>
  intro n h;obtain ⟨n,rfl⟩:=pS n;cases r with
  |nil=>rfl
  |cons y r=>
   simp only [zad] at h;have hl:(1:Int)<len (x::y::r):=by simp only [len,zad];omega
   simp only [Dk,ao hl,af (Int.le_of_lt hl),zac,List.getElem?_cons_zero,zaa,eh,strip];cases x==48 with
   |false=>rfl
   |true=>exact ih n (by simp only [zad];omega)
theorem Co:∀ (s:List UInt8),((tl s).isEmpty=true->strip s= []\/strip s= [48])/\((tl s).isEmpty=false->strip s=tl s)
 | []=>⟨fun _=> .inl rfl,fun h=>by cases h⟩
 | [x]=>by
  unfold tl strip;simp only [List.dropWhile];cases h:x==48 with
  |false=>exact ⟨fun h=>(by cases h),fun _=>rfl⟩
  |true=>exact ⟨fun _=> .inr (by rw [beq_iff_eq.1 h]),fun h=>by cases h⟩
 |x::y::r=>by
  have ih:=Co (y::r);unfold tl at ih ⊢;rw [List.dropWhile,strip];cases h:x==48 with
  |false=>exact ⟨fun h=>(by cases h),fun _=>rfl⟩
  |true=>exact ih
theorem Gk (s:List UInt8) (x:UInt8) (r:List UInt8) (h:tl s=x::r):(x==48)=false:=by
 induction s with
 |nil=>cases h
 |cons y s ih=>
  unfold tl at h ih;rw [List.dropWhile] at h;cases hy:y==48 with
  |true=>rw [hy] at h;exact ih h
  |false=>
   rw [hy] at h;injection h with h1 h2
   rw [←h1];exact hy
theorem vl (x:UInt8) (r:List UInt8) (h:(x==48)=false):(dX (x::r)).isEmpty=false:=by
 unfold dX;rw [List.reverse_cons,List.dropWhile_append];cases h2:(r.reverse.dropWhile (· ==48)).isEmpty with
 |true=>
  rw [if_pos rfl];simp only [List.dropWhile,h];rfl
 |false=>
  rw [if_neg (by decide)];simp
theorem ry (a:Bool) (c0:Bool) (c1:List UInt8) (c2 c3:Int):∀ (m:Nat) (s:List UInt8) (e:Int) (n:Nat),s.length=m->(dX s).isEmpty=false->s.length<=1000000-> -10000000000000<=e->e+s.length<=10000000000000->m+1<=n->
  AO n a s e c0 c1 c2 c3=some ((a,(dX s,(e+(len s - len (dX s)),((),())))),((c0,(c1,(c2,(c3,())))),())):=by
 intro m
 induction m with
 |zero=>
  intro s e n h h2;cases s with
  |nil=>cases h2
  |cons=>cases h
 |succ m ih=>
  intro s e n h h2 hs he1 he2 hn;obtain ⟨n,rfl⟩:=pS n;rcases last_cases s with rfl |⟨r,x,rfl⟩
  .cases h
  have hl:(r++ [x]).length=r.length+1:=by simp
  rw [hl] at h hs he2;have w:zao ((((r.length+1:Nat)):Int) - 1)=(r.length:Int):=by rw [aj]<;>omega
  have w2:zao (e+1)=e+1:=by rw [aj]<;>omega
  have hg:(r++ [x])[r.length]? =some x:=by simp
  rw [kz] at h2
  simp only [AO,len,hl,w,w2,af (show (0:Int)<=(r.length:Int) by omega),af (show (r.length:Int)<=((r.length+1:Nat):Int) by omega),zac,Int.toNat_natCast,hg,zaa,zai,Nat.sub_zero,List.drop_zero,
   kz,List.take_left]
  cases hx:x==48 with
  |false=>
   simp only [zab,hl]
   congr 6
   omega
  |true=>
   rw [hx] at h2;simp only [zac];rw [ih r (e+1) n (by omega) h2 (by omega) (by omega) (by omega) (by omega)];have q:e+1+(len r - len (dX r))=e+(((r.length+1:Nat):Int) - ((dX r).length:Nat)):=by unfold len;omega
   rw [q]
theorem nJ (n:Nat) (b:Bool) (d:List UInt8) (e:Int) (h1: -1000000000000<=e) (h2:e<=1000000000000) (hs:d.length<=1000000) (hn:d.length<=n):
  dU n b d e=some (norm b d e,()):=by
 have l1:=FF d;unfold dU;rw [FK b e _ _ _ _ d (n+1) (by omega)];simp only [zaa];obtain ⟨k1,k2⟩:=Co d;cases h:(tl d).isEmpty with
 |true=>
  have h0:tl d= []:=by cases h4:tl d with
   |nil=>rfl
   |cons=>rw [h4] at h;cases h
  have hz:norm b d e=D3 b:=by unfold norm;rw [h0];rfl
  rw [hz];rcases k1 h with k |k<;>rw [k]<;>rfl
 |false=>
  rw [k2 h];cases h4:tl d with
  |nil=>rw [h4] at h;cases h
  |cons x r=>
   have hx:=Gk d x r h4;have hr:=vl x r hx;have e1:((x::r)==([48]:List UInt8))=false:=by
    show ((x==48) &&_)=false
    rw [hx];rfl
   have e2:((x::r)==([]:List UInt8))=false:=rfl;rw [h4] at l1;simp only [e1,e2,zab,zaa];rw [ry b _ _ _ _ _ (x::r) e (n+1) rfl hr (by omega) (by omega) (by omega) (by omega)];simp only [zaa];unfold norm;rw [h4,hr];rfl
def hv (c:UInt8):Int:=if 48<=ub c/\ub c<=57 then ub c - 48 else if 97<=ub c/\ub c<=102 then ub c - 87 else if 65<=ub c/\ub c<=70 then ub c - 55 else -1
theorem iI (n:Nat) (c:UInt8):hex n (zao (ub c))=some (hv c,()):=by
 have hb:=iG c;rw [dR];unfold hex hv;generalize ub c=x at*;have e:(bif ak 48 x then some (ak x 57) else some false)=some (decide (48<=x/\x<=57)):=by
  rw [dn,dn];by_cases h1:48<=x<;>by_cases h2:x<=57<;>simp [h1,h2]
 have e2:(bif ak 97 x then some (ak x 102) else some false)=some (decide (97<=x/\x<=102)):=by
  rw [dn,dn];by_cases h1:97<=x<;>by_cases h2:x<=102<;>simp [h1,h2]
 have e3:(bif ak 65 x then some (ak x 70) else some false)=some (decide (65<=x/\x<=70)):=by
  rw [dn,dn];by_cases h1:65<=x<;>by_cases h2:x<=70<;>simp [h1,h2]
 rw [e,e2,e3];have w1:zao (x - 48)=x - 48:=by rw [aj]<;>omega
 have w2:zao (zao (x - 97)+10)=x - 87:=by rw [aj (x:=x - 97),aj]<;>omega
 have w3:zao (zao (x - 65)+10)=x - 55:=by rw [aj (x:=x - 65),aj]<;>omega
 rw [w1,w2,w3];by_cases h1:48<=x/\x<=57
 .rw [if_pos h1,decide_eq_true h1];rfl
 by_cases h2:97<=x/\x<=102
 .rw [if_neg h1,decide_eq_false h1,if_pos h2,decide_eq_true h2];rfl
 by_cases h3:65<=x/\x<=70
 .rw [if_neg h1,decide_eq_false h1,if_neg h2,decide_eq_false h2,if_pos h3,decide_eq_true h3];rfl
 rw [if_neg h1,decide_eq_false h1,if_neg h2,decide_eq_false h2,if_neg h3,decide_eq_false h3];rfl
theorem mG (n:Nat) (c:UInt8):IM n (zao (ub c))=some (hv c,()):=iI n c
theorem Su (c:UInt8):(0<=hv c/\hv c<10)↔AK c=true:=by
 have e:AK c=true↔(48<=ub c/\ub c<=57):=by
  unfold AK ub;rw [zae,Nat.ble_eq,Nat.ble_eq];omega
 rw [e];unfold hv;split
 .omega
 split
 .omega
 split<;>omega
theorem S3 (c:UInt8) (h:AK c=true):hv c=ub c - 48:=by
 have e:(48<=ub c/\ub c<=57):=by
  unfold AK at h;unfold ub;rw [zae,Nat.ble_eq,Nat.ble_eq] at h;omega
 unfold hv;rw [if_pos e]
def Dg (l:List Int):Prop:=∀ x,x∈l->0<=x/\x<=9
theorem Dg.nil:Dg []:=fun x h=>by cases h
theorem Dg.head {x:Int} {r:List Int} (h:Dg (x::r)):0<=x/\x<=9:=h x (.head _)
theorem Dg.tail {x:Int} {r:List Int} (h:Dg (x::r)):Dg r:=fun y hy=>h y (.tail _ hy)
theorem Dg.cons {x:Int} {r:List Int} (h1:0<=x/\x<=9) (h:Dg r):Dg (x::r):=fun y hy=>by
 cases hy with
 |head=>exact h1
 |tail _ hy=>exact h y hy
theorem Dg.app {a b:List Int} (h1:Dg a) (h2:Dg b):Dg (a++b):=fun y hy=>by
 rcases List.mem_append.1 hy with h |h
 .exact h1 y h
 .exact h2 y h
theorem Dg.drop {a:List Int} (h:Dg a) (i:Nat):Dg (a.drop i):=fun y hy=>h y (List.mem_of_mem_drop hy)
def lU (k:Int):List Int->Int->List Int×Int
 | [],m=>([],m)
 |x::r,m=>(((m+x*k)%10)::(lU k r ((m+x*k) / 10)).1,(lU k r ((m+x*k) / 10)).2)
def carry (m:Int):List Int:=if m=0 then [] else if m<10 then [m%10] else [m%10,m / 10%10]
def mul (k:Int) (l:List Int) (m:Int):List Int:=(lU k l m).1++carry (lU k l m).2
theorem yS {x k:Int} (h1:0<=x/\x<=9) (h2:0<=k/\k<=16):0<=x*k/\x*k<=144:=by
 refine ⟨Int.mul_nonneg h1.1 h2.1,?_⟩;have:=Int.mul_le_mul h1.2 h2.2 h2.1 (by omega);omega
theorem zD (k:Int) (hk:0<=k/\k<=16):∀ (l:List Int) (m:Int),Dg l->0<=m/\m<=15->Dg (lU k l m).1/\(0<=(lU k l m).2/\(lU k l m).2<=15)/\(lU k l m).1.length=l.length
 | [],m,_,hm=>⟨Dg.nil,hm,rfl⟩
 |x::r,m,hl,hm=>by
  have hp:=yS hl.head hk;obtain ⟨i1,i2,i3⟩:=zD k hk r ((m+x*k) / 10) hl.tail (by omega);exact ⟨Dg.cons (by omega) i1,i2,by simp only [lU,zad,i3]⟩
theorem M0 (m:Int) (hm:0<=m/\m<=15):Dg (carry m)/\(carry m).length<=2:=by
 unfold carry;split
 .exact ⟨Dg.nil,by simp⟩
 split
 .exact ⟨Dg.cons (by omega) Dg.nil,by simp⟩
 .exact ⟨Dg.cons (by omega) (Dg.cons (by omega) Dg.nil),by simp⟩
theorem DI (k:Int) (hk:0<=k/\k<=16) (l:List Int) (m:Int) (hl:Dg l) (hm:0<=m/\m<=15):Dg (mul k l m)/\(mul k l m).length<=l.length+2:=by
 obtain ⟨i1,i2,i3⟩:=zD k hk l m hl hm;obtain ⟨c1,c2⟩:=M0 _ i2;refine ⟨i1.app c1,?_⟩;unfold mul;rw [zaf];omega
theorem Fq (m:Int) (hm:0<=m/\m<=15) (acc:List Int) (ha:acc.length<=100000) (n:Nat) (hn:3<=n):sD n m acc=some ((acc++carry m,()),()):=by
 have st:∀ (m:Int) (acc:List Int) (n:Nat),0<m->m<=15->acc.length<=100005->sD (n+1) m acc=sD n (m / 10) (acc++ [m%10]):=fun m acc n h1 h2 ha=>by
  have w:zao (Int.tdiv m 10)=m / 10:=by rw [Int.tdiv_eq_ediv_of_nonneg (by omega),aj]<;>omega
  simp only [sD,ao h1,zac,List.length_singleton,zad,zah,aV (show (acc.length+(0+1))*9<=1000000 by omega),w,Int.tmod_eq_emod_of_nonneg (show 0<=m by omega)]
 have fin:∀ (acc:List Int) (n:Nat),sD (n+1) 0 acc=some ((acc,()),()):=fun acc n=>rfl
 obtain ⟨n,rfl⟩:∃ k,n=k+3:=⟨n - 3,by omega⟩;unfold carry;by_cases h0:m=0
 .subst h0
  rw [if_pos rfl,fin,List.append_nil]
 rw [if_neg h0,st m acc (n+2) (by omega) (by omega) (by omega)];by_cases h1:m<10
 .rw [if_pos h1,show m / 10=0 by omega,fin]
 .rw [if_neg h1,st (m / 10) _ (n+1) (by omega) (by omega) (by simp;omega),show m / 10 / 10=0 by omega,fin,List.append_assoc]
  rfl
theorem HI (k:Int) (hk:0<=k/\k<=16) (l:List Int) (hl:Dg l) (hs:l.length<=90000):∀ (d i n:Nat) (m:Int) (acc:List Int),i+d=l.length->acc.length=i->0<=m/\m<=15->d+1<=n->
  xz n l k m acc (i:Int)=some (((lU k (l.drop i) m).2,(acc++(lU k (l.drop i) m).1,())),()):=by
 intro d
 induction d with
 |zero=>
  intro i n m acc h ha hm hn;obtain ⟨n,rfl⟩:=pS n;simp only [xz,len,aC (show ((l.length:Nat):Int)<=(i:Int) by omega),zab,List.drop_eq_nil_of_le (show l.length<=i by omega),lU,List.append_nil]
 |succ d ih=>
  intro i n m acc h ha hm hn;obtain ⟨n,rfl⟩:=pS n;have hi:i<l.length:=by omega
  have w:=wS i;have hp:=yS (hl _ (List.getElem_mem hi)) hk;have w1:zao (l[i]*k)=l[i]*k:=by rw [aj]<;>omega
  have w2:zao (m+l[i]*k)=m+l[i]*k:=by rw [aj]<;>omega
  have w3:zao ((m+l[i]*k) / 10)=(m+l[i]*k) / 10:=by rw [aj]<;>omega
  have q0:0<=m+l[i]*k:=by omega
  rw [List.drop_eq_getElem_cons hi]
  simp only [xz,len,ao (show (i:Int)<((l.length:Nat):Int) by omega),af (show (0:Int)<=(i:Int) by omega),zac,Int.toNat_natCast,zam hi,zaa,w,w1,w2,
   Int.tdiv_eq_ediv_of_nonneg q0,Int.tmod_eq_emod_of_nonneg q0,w3,List.length_singleton,zad,zah,aV (show (acc.length+(0+1))*9<=1000000 by omega),lU]
  rw [ih (i+1) n _ _ (by omega) (by simp;omega) (by omega) (by omega),List.append_assoc];rfl
theorem CE (n:Nat) (l:List Int) (k m:Int) (hk:0<=k/\k<=16) (hl:Dg l) (hm:0<=m/\m<=15) (hs:l.length<=90000) (hn:l.length+3<=n):
  AH n l k m=some (bif (mul k l m).isEmpty then [0] else mul k l m,()):=by
 obtain ⟨i1,i2,i3⟩:=zD k hk l m hl hm;unfold AH;have:=HI k hk l hl hs l.length 0 (n+1) m [] (by omega) rfl hm (by omega);rw [List.drop_zero,List.nil_append] at this;rw [show (0:Int)=((0:Nat):Int) from rfl,this];simp only [zaa];rw [Fq _ i2 _ (by omega) (n+1) (by omega)];simp only [zaa]
 show (bif len (mul k l m)==0 then some ([0],()) else some (mul k l m,()))=_
 cases mul k l m with
 |nil=>rfl
 |cons x r=>
  have:(len (x::r)==0)=false:=by rw [beq_eq_false_iff_ne];simp only [len,zad];omega
  rw [this];rfl
theorem Se (k:Int) (l:List Int) (m:Int) (hm:0<=m/\m<=15) (hs:l.length<=90000) (acc:List Int) (ha:acc.length<=100000) (i:Nat) (hi:l.length<=i) (hi2:i<=100000) (n:Nat) (hn:3<=n):
  gL n l k m acc (i:Int)=some ((acc++carry m,()),()):=by
 have st:∀ (m:Int) (acc:List Int) (i n:Nat),0<m->m<=15->acc.length<=100005->l.length<=i->i<=100005->gL (n+1) l k m acc (i:Int)=gL n l k (m / 10) (acc++ [m%10]) ((i+1:Nat):Int):=fun m acc i n h1 h2 ha hi hi2=>by
  have w:=wS i;have w0:zao (m+zao (0*k))=m:=by rw [Int.zero_mul,aj (x:=0),aj]<;>omega
  have w1:zao (Int.tdiv m 10)=m / 10:=by rw [Int.tdiv_eq_ediv_of_nonneg (by omega),aj]<;>omega
  simp only [gL,len,aC (show ((l.length:Nat):Int)<=(i:Int) by omega),ao h1,zac,zab,zaa,w0,List.length_singleton,zad,zah,aV (show (acc.length+(0+1))*9<=1000000 by omega),w,w1,Int.tmod_eq_emod_of_nonneg (show 0<=m by omega)]
 have fin:∀ (acc:List Int) (i n:Nat),l.length<=i->gL (n+1) l k 0 acc (i:Int)=some ((acc,()),()):=fun acc i n hi=>by
  simp only [gL,len,aC (show ((l.length:Nat):Int)<=(i:Int) by omega),aC (Int.le_refl 0),zab,zaa]
 obtain ⟨n,rfl⟩:∃ k,n=k+3:=⟨n - 3,by omega⟩;unfold carry;by_cases h0:m=0
 .subst h0
  rw [if_pos rfl,fin _ _ _ hi,List.append_nil]
 rw [if_neg h0,st m acc i (n+2) (by omega) (by omega) (by omega) hi (by omega)];by_cases h1:m<10
 .rw [if_pos h1,show m / 10=0 by omega,fin _ _ _ (by omega)]
 .rw [if_neg h1,st (m / 10) _ (i+1) (n+1) (by omega) (by omega) (by simp;omega) (by omega) (by omega),show m / 10 / 10=0 by omega,fin _ _ _ (by omega),List.append_assoc]
  rfl
theorem Ih (k:Int) (hk:0<=k/\k<=16) (l:List Int) (hl:Dg l) (hs:l.length<=90000):∀ (d i n:Nat) (m:Int) (acc:List Int),i+d=l.length->acc.length=i->0<=m/\m<=15->d+3<=n->
  gL n l k m acc (i:Int)=some ((acc++((lU k (l.drop i) m).1++carry (lU k (l.drop i) m).2),()),()):=by
 intro d
 induction d with
 |zero=>
  intro i n m acc h ha hm hn;rw [List.drop_eq_nil_of_le (show l.length<=i by omega)];exact Se k l m hm hs acc (by omega) i (by omega) (by omega) n (by omega)
 |succ d ih=>
  intro i n m acc h ha hm hn;obtain ⟨n,rfl⟩:=pS n;have hi:i<l.length:=by omega
  have w:=wS i;have hp:=yS (hl _ (List.getElem_mem hi)) hk;have w1:zao (l[i]*k)=l[i]*k:=by rw [aj]<;>omega
  have w2:zao (m+l[i]*k)=m+l[i]*k:=by rw [aj]<;>omega
  have w3:zao ((m+l[i]*k) / 10)=(m+l[i]*k) / 10:=by rw [aj]<;>omega
  have q0:0<=m+l[i]*k:=by omega
  rw [List.drop_eq_getElem_cons hi]
  simp only [gL,len,ao (show (i:Int)<((l.length:Nat):Int) by omega),af (show (0:Int)<=(i:Int) by omega),zac,Int.toNat_natCast,zam hi,zaa,w,w1,w2,
   Int.tdiv_eq_ediv_of_nonneg q0,Int.tmod_eq_emod_of_nonneg q0,w3,List.length_singleton,zad,zah,aV (show (acc.length+(0+1))*9<=1000000 by omega),lU]
  rw [ih (i+1) n _ _ (by omega) (by simp;omega) (by omega) (by omega),List.append_assoc];rfl
theorem FE (n:Nat) (l:List Int) (k m:Int) (hk:0<=k/\k<=16) (hl:Dg l) (hm:0<=m/\m<=15) (hs:l.length<=90000) (hn:l.length+3<=n):
  times n l k m=some (mul k l m,()):=by
 unfold times;have:=Ih k hk l hl hs l.length 0 n m [] (by omega) rfl hm (by omega);rw [List.drop_zero,List.nil_append] at this;rw [show (0:Int)=((0:Nat):Int) from rfl,this];rfl
def ch (x:Int):UInt8:=UInt8.ofNat (Int.toNat (IntKind.wrap .u8 (zao (48+x))))
theorem NF (x:Int) (h:0<=x/\x<=9):(ch x==48)=(x==0):=by
 have:x=0\/x=1\/x=2\/x=3\/x=4\/x=5\/x=6\/x=7\/x=8\/x=9:=by omega
 rcases this with rfl |rfl |rfl |rfl |rfl |rfl |rfl |rfl |rfl |rfl<;>decide
theorem Qj:ch 0=48:=by decide
theorem jO {α:Type} (l:List α) (i:Nat) (h:i<l.length):(l.take (i+1)).reverse=l[i]::(l.take i).reverse:=by
 rw [List.take_succ_eq_append_getElem h,List.reverse_append];rfl
def tx (l:List Int):List UInt8:=bif (tl (l.reverse.map ch)).isEmpty then [48] else tl (l.reverse.map ch)
theorem JK (l:List Int) (hs:l.length<=100000):∀ (i n:Nat) (acc:List UInt8),i<=l.length->acc.length+i<=100000->i+1<=n->
  qw n l ((i:Int) - 1) acc=some (((),()),(((),(acc++(l.take i).reverse.map ch,())),())):=by
 intro i
 induction i with
 |zero=>
  intro n acc h ha hn;obtain ⟨n,rfl⟩:=pS n;simp only [qw,eA (show ((0:Nat):Int) - 1<0 by omega),zab,List.take_zero,List.reverse_nil,List.map_nil,List.append_nil]
 |succ i ih=>
  intro n acc h ha hn;obtain ⟨n,rfl⟩:=pS n;have e:((i+1:Nat):Int) - 1=(i:Int):=by omega
  have w:zao ((i:Int) - 1)=(i:Int) - 1:=by rw [aj]<;>omega
  rw [e,jO l i (by omega)];simp only [qw,af (show (0:Int)<=(i:Int) by omega),zac,Int.toNat_natCast,zam (show i<l.length by omega),zaa,w,List.length_singleton,zad,zah,aV (show (acc.length+(0+1))*2<=1000000 by omega)];rw [ih n _ (by omega) (by simp;omega) (by omega),List.map_cons,List.append_assoc];rfl
theorem isEmpty_eq {α:Type} {l:List α} (h:l.isEmpty=true):l= []:=by
 cases l with
 |nil=>rfl
 |cons=>cases h
theorem yB (n:Nat) (l:List Int) (hs:l.length<=90000) (hn:l.length+1<=n):text n l=some (tx l,()):=by
 unfold text;rcases last_cases l with rfl |⟨r,x,rfl⟩
 .rfl
 have hl:(r++ [x]).length=r.length+1:=by simp
 have hg:(r++ [x])[r.length]? =some x:=by simp
 rw [hl] at hs hn;have w:zao (((r.length+1:Nat):Int) - 1)=(r.length:Int):=by rw [aj]<;>omega
 have w2:zao ((r.length:Int) - 1)=(r.length:Int) - 1:=by rw [aj]<;>omega
 simp only [len,hl,w,w2,af (show (0:Int)<=(r.length:Int) by omega),zac,Int.toNat_natCast,hg,zaa];rw [JK (r++ [x]) (by omega) r.length n _ (by omega) (by simp;omega) (by omega)];have e:List.take r.length (r++ [x])=r:=by simp
 rw [e];have e2:(UInt8.ofNat (Int.toNat (IntKind.wrap IntKind.u8 (zao ((48:Int)+x)))))::([]:List UInt8)++(r.reverse.map ch)=((r++ [x]).reverse).map ch:=by
  rw [List.reverse_append];rfl
 rw [e2];unfold tx;have hlen:(((r++ [x]).reverse).map ch).length=r.length+1:=by simp
 generalize ((r++ [x]).reverse).map ch=c at*;have hc:c.isEmpty=false:=by
  cases c with
  |nil=>simp at hlen
  |cons=>rfl
 have hc2:List.take c.length c=c:=List.take_length;have hb:(c==([]:List UInt8))=false:=by rw [fS];exact hc
 simp only [zaa,hc,zab,af (Int.le_refl _),af (show ((c.length:Nat):Int)<=1099511627776 by omega),zai,zac,Int.toNat_natCast,hc2,hb];rw [jd n c 48 (by omega)];simp only [zaa]
 show (bif !(tl c==([]:List UInt8)) then some (tl c,()) else some ([48],()))=some (bif (tl c).isEmpty then [48] else tl c,())
 rw [fS];cases (tl c).isEmpty<;>rfl
def dL:List Int->List Int
 | []=> []
 | [x]=> [x]
 |x::y::r=>bif x==0 then dL (y::r) else x::y::r
theorem tQ:∀ (r:List Int),∃ p,r=p++dL r
 | []=>⟨[],rfl⟩
 | [x]=>⟨[],rfl⟩
 |x::y::r=>by
  rw [dL];cases x==0 with
  |false=>exact ⟨[],rfl⟩
  |true=>
   obtain ⟨p,hp⟩:=tQ (y::r);exact ⟨x::p,congrArg (x::·) hp⟩
theorem yq:∀ (r:List Int),Dg r->r≠ []->(dL r).map ch=bif (tl (r.map ch)).isEmpty then [48] else tl (r.map ch)
 | [],_,h=>absurd rfl h
 | [x],hd,_=>by
  unfold tl;simp only [dL,List.map_cons,List.map_nil,List.dropWhile,NF x hd.head];cases h:x==0 with
  |false=>rfl
  |true=>rw [beq_iff_eq.1 h,Qj];rfl
 |x::y::r,hd,_=>by
  have ih:=yq (y::r) hd.tail (by simp);unfold tl at ih ⊢;rw [dL,List.map_cons,List.dropWhile,NF x hd.head];cases x==0 with
  |false=>rfl
  |true=>exact ih
theorem Vg (l:List Int) (hs:l.length<=100000):∀ (i n:Nat),i<=l.length->i+1<=n->wX n l (i:Int)=some ((l,(((dL (l.take i).reverse).length:Int),())),()):=by
 intro i
 induction i with
 |zero=>
  intro n h hn;obtain ⟨n,rfl⟩:=pS n;rfl
 |succ i ih=>
  intro n h hn;obtain ⟨n,rfl⟩:=pS n;have w:zao (((i+1:Nat):Int) - 1)=(i:Int):=by rw [aj]<;>omega
  rw [jO l i (by omega)];cases i with
  |zero=>
   simp only [wX,aC (show ((0+1:Nat):Int)<=1 by omega),zab,zaa];rfl
  |succ i=>
   rw [jO l i (by omega)] at ih ⊢;simp only [wX,ao (show (1:Int)<((i+1+1:Nat):Int) by omega),w,af (show (0:Int)<=((i+1:Nat):Int) by omega),zac,Int.toNat_natCast,zam (show i+1<l.length by omega),zaa,dL];cases l[i+1]==0 with
   |true=>exact ih n (by omega) (by omega)
   |false=>
    simp only [zab,zad,List.length_reverse,List.length_take]
    congr 5
    omega
theorem GX {α:Type} (a v:α) (X:List α):∀ (j:Nat),List.set (List.replicate (j+1) a++X) j v=List.replicate j a++v::X
 |0=>rfl
 |j+1=>by
  rw [List.replicate_succ,List.cons_append,List.set_cons_succ,GX a v X j,List.replicate_succ,List.cons_append]
theorem Vp (l:List Int) (k:Nat) (hk:k<=l.length) (hs:l.length<=100000):∀ (d i n:Nat),i+d=k->d+1<=n->
  yg n l (k:Int) (List.replicate d 0++(l.take i).reverse.map ch) (i:Int)=some (((l.take k).reverse.map ch,()),()):=by
 intro d
 induction d with
 |zero=>
  intro i n h hn;obtain ⟨n,rfl⟩:=pS n;obtain rfl:i=k:=by omega
  simp only [yg,aC (Int.le_refl _),zab];rfl
 |succ d ih=>
  intro i n h hn;obtain ⟨n,rfl⟩:=pS n;have hi:i<l.length:=by omega
  have w:zao (zao ((k:Int) - 1) - (i:Int))=(d:Int):=by rw [aj (x:=(k:Int) - 1),aj]<;>omega
  have w2:=wS i;have hl:(List.replicate (d+1) (0:UInt8)++(l.take i).reverse.map ch).length=k:=by simp;omega
  have hg:d<(List.replicate (d+1) (0:UInt8)++(l.take i).reverse.map ch).length:=by rw [hl];omega
  simp only [yg,ao (show (i:Int)<(k:Int) by omega),af (show (0:Int)<=(i:Int) by omega),zac,Int.toNat_natCast,zam hi,zaa,w,w2,af (show (0:Int)<=(d:Int) by omega),len,hl,ao (show (d:Int)<(k:Int) by omega),zai,
   zam hg,GX]
  have:=ih (i+1) n (by omega) (by omega);rw [jO l i hi] at this;exact this
theorem nf (n:Nat) (l:List Int) (hd:Dg l) (h0:l≠ []) (hs:l.length<=90000) (hn:l.length<=n):lL n l=some (tx l,()):=by
 obtain ⟨p,hp⟩:=tQ l.reverse;have hr:Dg l.reverse:=fun x hx=>hd x (List.mem_reverse.1 hx)
 have hc:=yq l.reverse hr (by simp [h0]);have hl:l=(dL l.reverse).reverse++p.reverse:=by rw [←List.reverse_append,←hp,List.reverse_reverse]
 have hk:(dL l.reverse).length<=l.length:=by
  have:=congrArg List.length hl;rw [zaf,List.length_reverse] at this;omega
 have ht:(l.take (dL l.reverse).length).reverse=dL l.reverse:=by
  conv=>lhs;rw [show l.take (dL l.reverse).length=(dL l.reverse).reverse from by
   conv=>lhs;arg 2;rw [hl]
   rw [List.take_left' (by rw [List.length_reverse])]]
  rw [List.reverse_reverse]
 unfold lL len;rw [Vg l (by omega) l.length (n+1) (zal _) (by omega),List.take_length];simp only [zaa];rw [af (show (0:Int)<=((dL l.reverse).length:Nat) by omega),af (Int.le_refl _),af (show (((dL l.reverse).length:Nat):Int)*2<=1099511627776 by omega)];simp only [zai,zac,Int.toNat_natCast];have:=Vp l (dL l.reverse).length hk (by omega) (dL l.reverse).length 0 (n+1) (by omega) (by omega);rw [List.take_zero,List.reverse_nil,List.map_nil,List.append_nil,ht] at this;rw [show (0:Int)=((0:Nat):Int) from rfl,this];simp only [zaa];rw [hc];rfl
def Im (base:Int) (c:UInt8):Bool:=decide (0<=hv c/\hv c<base)
theorem zq (base:Int) (c:UInt8):(bif aD (hv c) 0 then some true else some (ak base (hv c)))=some (!Im base c):=by
 unfold Im;by_cases h1:hv c<0
 .rw [ao h1,decide_eq_false (by omega)];rfl
 .rw [aC (by omega),zab]
  by_cases h2:base<=hv c
  .rw [af h2,decide_eq_false (by omega)];rfl
  .rw [eA (by omega),decide_eq_true (by omega)];rfl
theorem Eb {base:Int} (hb:base<=16) {c:UInt8} (h:Im base c=true):0<=hv c/\hv c<=15:=by
 have:=of_decide_eq_true h;omega
theorem O5 (c:UInt8):Im 10 c=AK c:=by
 have h:=Su c;unfold Im;cases hd:AK c with
 |true=>exact decide_eq_true (h.2 hd)
 |false=>
  apply decide_eq_false;intro h2;have:=h.1 h2;rw [hd] at this;cases this
def fold (k:Int):List Int->List UInt8->List Int
 |l,[]=>l
 |l,c::r=>fold k (mul k l (hv c)) r
def jt (base:Int):List UInt8->Bool
 | []=>true
 |c::r=>Im base c &&jt base r
theorem qh {base:Int}:∀ {s:List UInt8},jt base s=true->∀ c,c∈s->Im base c=true
 | [],_,c,h=>by cases h
 |x::r,h,c,hc=>by
  simp only [jt,zae] at h;cases hc with
  |head=>exact h.1
  |tail _ hc=>exact qh h.2 c hc
theorem td (k:Int) (hk:0<=k/\k<=16):∀ (s:List UInt8) (l:List Int),Dg l->jt k s=true->Dg (fold k l s)/\(fold k l s).length<=l.length+2*s.length
 | [],l,hl,_=>⟨hl,by simp [fold]⟩
 |c::r,l,hl,h=>by
  simp only [jt,zae] at h;obtain ⟨m1,m2⟩:=DI k hk l (hv c) hl (Eb hk.2 h.1);obtain ⟨f1,f2⟩:=td k hk r _ m1 h.2;exact ⟨f1,by simp only [fold,zad];omega⟩
theorem Uh (s b:List UInt8) (l:List Int) (hs:b.length<=100000):∀ (d i n:Nat),i+d=b.length->d+1<=n->
  jA n s 10 l b (len b) (i:Int)=some (bif jt 10 (b.drop i) then .inl ((s,(10,(l,()))),()) else .inr (([],(false,())),())):=by
 intro d
 induction d with
 |zero=>
  intro i n h hn;obtain ⟨n,rfl⟩:=pS n;simp only [jA,len,aC (show ((b.length:Nat):Int)<=(i:Int) by omega),zab,List.drop_eq_nil_of_le (show b.length<=i by omega)];rfl
 |succ d ih=>
  intro i n h hn;obtain ⟨n,rfl⟩:=pS n;have hi:i<b.length:=by omega
  have w:=wS i;have e10:((10:Int) !=10)=false:=by decide
  have ih:=ih (i+1) n (by omega) (by omega);rw [List.drop_eq_getElem_cons hi];unfold len at ih ⊢;simp only [jA,ao (show (i:Int)<((b.length:Nat):Int) by omega),af (show (0:Int)<=(i:Int) by omega),zac,Int.toNat_natCast,zam hi,zaa,w,iI,zq,e10,zab,jt,ih];cases Im 10 b[i]<;>rfl
theorem Vf (k:Int) (hk:0<=k/\k<=16) (hk2:(k !=10)=true) (s b:List UInt8) (hs:b.length<=27000):∀ (d i n:Nat) (l:List Int),i+d=b.length->Dg l->l.length+2*d<=40000->3*d+l.length+4<=n->
  jA n s k l b (len b) (i:Int)=some (bif jt k (b.drop i) then .inl ((s,(k,(fold k l (b.drop i),()))),()) else .inr (([],(false,())),())):=by
 intro d
 induction d with
 |zero=>
  intro i n l h hl hb hn;obtain ⟨n,rfl⟩:=pS n;simp only [jA,len,aC (show ((b.length:Nat):Int)<=(i:Int) by omega),zab,List.drop_eq_nil_of_le (show b.length<=i by omega)];rfl
 |succ d ih=>
  intro i n l h hl hb hn;obtain ⟨n,rfl⟩:=pS n;have hi:i<b.length:=by omega
  have w:=wS i;have ih:=ih (i+1) n;rw [List.drop_eq_getElem_cons hi];unfold len at ih ⊢;simp only [jA,ao (show (i:Int)<((b.length:Nat):Int) by omega),af (show (0:Int)<=(i:Int) by omega),zac,Int.toNat_natCast,zam hi,zaa,w,iI,zq,hk2,jt];cases ho:Im k b[i] with
  |false=>rfl
  |true=>
   have hm:=Eb hk.2 ho;obtain ⟨m1,m2⟩:=DI k hk l (hv b[i]) hl hm;simp only [zag,zab];rw [FE (n+1) l k (hv b[i]) hk hl hm (by omega) (by omega)];simp only [zaa];rw [ih (mul k l (hv b[i])) (by omega) m1 (by omega) (by omega)];rfl
theorem Pc (s:List UInt8) (hs:s.length<=100000) (ha:jt 10 s=true):∀ (i n:Nat) (acc:List Int),i<=s.length->acc.length+i<=100000->i+1<=n->
  rE n s acc ((i:Int) - 1)=some (.inl ((acc++(s.take i).reverse.map hv,()),())):=by
 intro i
 induction i with
 |zero=>
  intro n acc h hl hn;obtain ⟨n,rfl⟩:=pS n;simp only [rE,eA (show ((0:Nat):Int) - 1<0 by omega),zab,List.take_zero,List.reverse_nil,List.map_nil,List.append_nil]
 |succ i ih=>
  intro n acc h hl hn;obtain ⟨n,rfl⟩:=pS n;have hi:i<s.length:=by omega
  have e:((i+1:Nat):Int) - 1=(i:Int):=by omega
  have w:zao ((i:Int) - 1)=(i:Int) - 1:=by rw [aj]<;>omega
  have hd:=qh ha s[i] (List.getElem_mem hi);have hu:=S3 s[i] (by rw [←O5];exact hd);have hb:=iG s[i];have w2:zao (zao (ub s[i]) - 48)=hv s[i]:=by rw [dR,hu,aj]<;>omega
  rw [e,jO s i hi];simp only [rE,af (show (0:Int)<=(i:Int) by omega),zac,Int.toNat_natCast,zam hi,zaa,w,w2,zq,hd,zag,zab,List.length_singleton,zad,zah,aV (show (acc.length+(0+1))*9<=1000000 by omega)];rw [ih n _ (by omega) (by simp;omega) (by omega),List.map_cons,List.append_assoc];rfl
theorem PT (n:Nat) (s:List UInt8) (hs:s.length<=5000) (ha:jt 10 s=true) (hn:s.length<=n):of n s=some (s.reverse.map hv,()):=by
 unfold of len;have w:zao ((s.length:Int) - 1)=(s.length:Int) - 1:=by rw [aj]<;>omega
 rw [aC (show ((s.length:Nat):Int)<=5000 by omega),w,Pc s (by omega) ha s.length (n+1) [] (zal _) (by simp;omega) (by omega),List.take_length];rfl
theorem RW (s:List UInt8) (ha:jt 10 s=true):Dg (s.reverse.map hv):=fun x hx=>by
 obtain ⟨c,hc,rfl⟩:=List.mem_map.1 hx;have:=of_decide_eq_true (qh ha c (List.mem_reverse.1 hc));omega
def pl (base:Int) (s:List UInt8):List UInt8×bv:=
 bif s.isEmpty ||(aD 5000 (len s) || !jt base s) then ([],(false,())) else (tx (bif base==10 then s.reverse.map hv else fold base [] s),(true,()))
theorem bad (s:List UInt8) (base:Int) (hb:base=8\/base=10\/base=16):(bif (s==([]:List UInt8)) then
   some Bool.true
  else
  bif (Go.Iv.aD (5000:Int) (len s)) then
   some Bool.true
  else
  bif (base !=(8:Int)) then
   bif (base !=(10:Int)) then
    some (base !=(16:Int))
   else
   some Bool.false
  else
  some Bool.false)=some (s.isEmpty ||aD 5000 (len s)):=by
 rw [fS];rcases hb with rfl |rfl |rfl<;>cases s.isEmpty<;>cases aD 5000 (len s)<;>rfl
theorem nN (n:Nat) (s:List UInt8) (base:Int) (hb:base=8\/base=10\/base=16) (hn:27000<=n):plain n s base=some (pl base s):=by
 have hk:0<=base/\base<=16:=by omega
 unfold plain pl;rw [bad s base hb];cases he:s.isEmpty with
 |true=>rfl
 |false=>
  by_cases hl:s.length<=5000
  .rw [aC (show len s<=5000 by unfold len;omega)]
   simp only [Bool.false_or,zaa,zab];by_cases h10:base=10
   .subst h10
    have:=Uh s s [] (by omega) s.length 0 (n+2) (by omega) (by omega);rw [List.drop_zero] at this;rw [show (0:Int)=((0:Nat):Int) from rfl,this];cases ha:jt 10 s with
    |false=>rfl
    |true=>
     have e10:((10:Int)==10)=true:=by decide
     simp only [zaa,zac,zag,zab,e10];rw [PT (n+2) s hl ha (by omega)];simp only [zaa];rw [yB n _ (by simp;omega) (by simp;omega)];rfl
   .have e10:(base==10)=false:=beq_eq_false_iff_ne.2 h10
    have:=Vf base hk (by rw [bne,e10];rfl) s s (by omega) s.length 0 (n+2) [] (by omega) Dg.nil (by simp;omega) (by simp;omega);rw [List.drop_zero] at this;rw [show (0:Int)=((0:Nat):Int) from rfl,this];cases ha:jt base s with
    |false=>rfl
    |true=>
     obtain ⟨f1,f2⟩:=td base hk s [] Dg.nil ha;rw [zah] at f2;simp only [zaa,zac,zag,zab,e10];rw [yB n _ (by omega) (by omega)];rfl
  .rw [ao (show 5000<len s by unfold len;omega)]
   rfl
theorem Vx (k:Int) (s:List UInt8) (hs:s.length<=100000):∀ (d i n:Nat) (acc:List Int),i+d=s.length->acc.length=i->d+1<=n->
  yw n s k acc (i:Int)=some (bif jt k (s.drop i) then .inl ((acc++(s.drop i).map hv,()),()) else .inr (((),()),())):=by
 intro d
 induction d with
 |zero=>
  intro i n acc h hl hn;obtain ⟨n,rfl⟩:=pS n;simp only [yw,len,aC (show ((s.length:Nat):Int)<=(i:Int) by omega),zab,List.drop_eq_nil_of_le (show s.length<=i by omega),List.map_nil,List.append_nil];rfl
 |succ d ih=>
  intro i n acc h hl hn;obtain ⟨n,rfl⟩:=pS n;have hi:i<s.length:=by omega
  have w:=wS i;have ih:=ih (i+1) n (acc++ [hv s[i]]) (by omega) (by simp;omega) (by omega);rw [List.drop_eq_getElem_cons hi]
  simp only [yw,len,ao (show (i:Int)<((s.length:Nat):Int) by omega),af (show (0:Int)<=(i:Int) by omega),zac,Int.toNat_natCast,zam hi,zaa,w,mG,zq,jt,
   List.length_singleton,zad,zah,aV (show (acc.length+(0+1))*9<=1000000 by omega),ih,List.map_cons,List.append_assoc,List.singleton_append]
  cases Im k s[i]<;>rfl
theorem Ln (l:List Int) (hs:l.length<=100000):∀ (i n:Nat) (acc:List Int),i<=l.length->acc.length+i<=100000->i+1<=n->
  yj n l acc ((i:Int) - 1)=some ((acc++(l.take i).reverse,()),()):=by
 intro i
 induction i with
 |zero=>
  intro n acc h hl hn;obtain ⟨n,rfl⟩:=pS n;simp only [yj,eA (show ((0:Nat):Int) - 1<0 by omega),zab,List.take_zero,List.reverse_nil,List.append_nil]
 |succ i ih=>
  intro n acc h hl hn;obtain ⟨n,rfl⟩:=pS n;have hi:i<l.length:=by omega
  have e:((i+1:Nat):Int) - 1=(i:Int):=by omega
  have w:zao ((i:Int) - 1)=(i:Int) - 1:=by rw [aj]<;>omega
  rw [e,jO l i hi];simp only [yj,len,af (show (0:Int)<=(i:Int) by omega),ao (show (i:Int)<((l.length:Nat):Int) by omega),zai,zac,Int.toNat_natCast,zam hi,zaa,w,List.length_singleton,zad,zah,aV (show (acc.length+(0+1))*9<=1000000 by omega)];rw [ih n _ (by omega) (by simp;omega) (by omega),List.append_assoc];rfl
def un (l:List Int):List Int:=bif l.isEmpty then [0] else l
theorem Q4 {l:List Int} (h:Dg l):Dg (un l):=by
 unfold un;cases l.isEmpty with
 |true=>exact Dg.cons (by omega) Dg.nil
 |false=>exact h
theorem Lb (l:List Int):(un l).length<=l.length+1:=by
 unfold un;cases l.isEmpty<;>simp
theorem RB (k:Int) (l:List Int) (m:Int) (hm:0<=m/\m<=15):(bif (mul k (un l) m).isEmpty then [0] else mul k (un l) m)=un (mul k l m):=by
 cases l with
 |cons x r=>rfl
 |nil=>
  show (bif (mul k [0] m).isEmpty then [0] else mul k [0] m)=un (mul k [] m)
  have e1:mul k [0] m=(m%10)::carry (m / 10):=by
   unfold mul;simp only [lU,Int.zero_mul,Int.add_zero];rfl
  have e2:mul k [] m=carry m:=rfl;rw [e1,e2]
  show (m%10)::carry (m / 10)=un (carry m)
  unfold carry;by_cases h0:m=0
  .subst h0;rfl
  by_cases h1:m<10
  .rw [if_neg h0,if_pos h1,if_pos (show m / 10=0 by omega)];rfl
  .rw [if_neg h0,if_neg h1,if_neg (show ¬ m / 10=0 by omega),if_pos (show m / 10<10 by omega)];rfl
theorem Vy (k:Int) (hk:0<=k/\k<=16) (s:List UInt8) (ha:jt k s=true) (hs:s.length<=27000):∀ (d i n:Nat) (l:List Int),i+d=s.length->Dg l->l.length+2*d<=40000->3*d+l.length+6<=n->
  n9 n k (s.map hv) (un l) (i:Int)=some ((un (fold k l (s.drop i)),()),()):=by
 intro d
 induction d with
 |zero=>
  intro i n l h hl hb hn;obtain ⟨n,rfl⟩:=pS n;simp only [n9,len,List.length_map,aC (show ((s.length:Nat):Int)<=(i:Int) by omega),zab,List.drop_eq_nil_of_le (show s.length<=i by omega)];rfl
 |succ d ih=>
  intro i n l h hl hb hn;obtain ⟨n,rfl⟩:=pS n;have hi:i<s.length:=by omega
  have hi2:i<(s.map hv).length:=by rw [List.length_map];exact hi
  have w:=wS i;have hm:=Eb hk.2 (qh ha s[i] (List.getElem_mem hi));obtain ⟨m1,m2⟩:=DI k hk l (hv s[i]) hl hm;have hu:=Lb l;rw [List.drop_eq_getElem_cons hi];simp only [n9,len,List.length_map,ao (show (i:Int)<((s.length:Nat):Int) by omega),af (show (0:Int)<=(i:Int) by omega),zai,zac,Int.toNat_natCast,zam hi2,List.getElem_map,zaa,w];rw [CE (n+1) (un l) k (hv s[i]) hk (Q4 hl) hm (by omega) (by omega),RB k l _ hm];simp only [zaa];rw [ih (i+1) n (mul k l (hv s[i])) (by omega) m1 (by omega) (by omega)];rfl
theorem TA (l:List Int):tx (un l)=tx l:=by
 cases l with
 |nil=>decide
 |cons x r=>rfl
theorem TK (l:List Int):un l≠ []:=by
 cases l with
 |nil=>simp [un]
 |cons=>simp [un]
theorem mi (n:Nat) (s:List UInt8) (base:Int) (hb:base=8\/base=10\/base=16) (hn:27000<=n):om n s base=some (pl base s):=by
 have hk:0<=base/\base<=16:=by omega
 unfold om pl;rw [bad s base hb];cases he:s.isEmpty with
 |true=>rfl
 |false=>
  by_cases hl:s.length<=5000
  .rw [aC (show len s<=5000 by unfold len;omega)]
   simp only [Bool.false_or,zaa,zab];have:=Vx base s (by omega) s.length 0 n [] (by omega) rfl (by omega);rw [List.drop_zero,List.nil_append] at this;rw [show (0:Int)=((0:Nat):Int) from rfl,this];cases ha:jt base s with
   |false=>rfl
   |true=>
    have hne:(s.map hv).isEmpty=false:=by
     cases s with
     |nil=>cases he
     |cons=>rfl
    simp only [zaa,zac,zag,zab,hne,Bool.false_eq_true,if_false];by_cases h10:base=10
    .subst h10
     have e10:((10:Int)==10)=true:=by decide
     have w:zao (((s.map hv).length:Int) - 1)=((s.map hv).length:Int) - 1:=by rw [List.length_map,aj]<;>omega
     simp only [e10,zac,len,w];rw [Ln (s.map hv) (by simp;omega) (s.map hv).length (n+2) [] (zal _) (by simp;omega) (by simp;omega),List.take_length,List.nil_append,←List.map_reverse];simp only [zaa];rw [nf n _ (RW s ha) (by intro h;cases s with
      |nil=>cases he
      |cons=>simp at h) (by simp;omega) (by simp;omega)]
     rfl
    .have e10:(base==10)=false:=beq_eq_false_iff_ne.2 h10
     have:=Vy base hk s ha (by omega) s.length 0 n [] (by omega) Dg.nil (by simp;omega) (by simp;omega);rw [List.drop_zero] at this;obtain ⟨f1,f2⟩:=td base hk s [] Dg.nil ha;rw [zah] at f2;have hu:=Lb (fold base [] s);simp only [e10,zab]
     show Option.bind (n9 n base (s.map hv) (un []) ((0:Nat):Int)) _=_
     rw [this];simp only [zaa];rw [nf n _ (Q4 f1) (TK _) (by omega) (by omega),TA];rfl
  .rw [ao (show 5000<len s by unfold len;omega)]
   rfl
theorem Pf (l:List Int):tx l= [48]\/∃ x r,tx l=x::r/\(x==48)=false:=by
 unfold tx;cases h:tl (l.reverse.map ch) with
 |nil=>exact .inl rfl
 |cons x r=>exact .inr ⟨x,r,rfl,Gk _ x r h⟩
theorem OO (base:Int) (t:List UInt8) (h:(pl base t).2.1=true):(pl base t).1= [48]\/∃ x r,(pl base t).1=x::r/\(x==48)=false:=by
 unfold pl at h ⊢;cases hb:(t.isEmpty ||(aD 5000 (len t) || !jt base t)) with
 |true=>rw [hb] at h;cases h
 |false=>exact Pf _
theorem Sb (l:List Int):(tx l).length<=l.length+1:=by
 unfold tx;have:=FF (l.reverse.map ch);rw [List.length_map,List.length_reverse] at this;cases (tl (l.reverse.map ch)).isEmpty with
 |true=>simp
 |false=>simp only [zab];omega
theorem L8 (base:Int) (hk:0<=base/\base<=16) (t:List UInt8):(pl base t).1.length<=10001:=by
 unfold pl;cases hb:(t.isEmpty ||(aD 5000 (len t) || !jt base t)) with
 |true=>simp
 |false=>
  simp only [Bool.or_eq_false_iff,Bool.not_eq_false'] at hb;obtain ⟨_,h2,h3⟩:=hb;rw [fu] at h2;have h2:=of_decide_eq_false h2;unfold len at h2;simp only [zab];refine Nat.le_trans (Sb _) ?_;cases base==10 with
  |true=>simp only [zac,List.length_map,List.length_reverse];omega
  |false=>
   have:=(td base hk t [] Dg.nil h3).2;simp only [zab,zah] at this ⊢;omega
def no:Kd×bv:=((false,([],(0,0))),(false,()))
def fin (b:Bool) (p:List UInt8×bv):Kd×bv:=
 bif p.2.1 then (norm (b && !(p.1== [48])) p.1 0,(true,())) else no
theorem TN (x:UInt8) (r:List UInt8) (h:(x==48)=false):tl (x::r)=x::r:=by
 unfold tl;rw [List.dropWhile,h]
theorem Ml (x:UInt8) (r:List UInt8) (h:(x==48)=false):∃ q,dX (x::r)=x::q:=by
 have hn:=vl x r h;have hp:dX (x::r)<+:x::r:=by
  have:=(List.dropWhile_suffix (· ==(48:UInt8)) (l:=(x::r).reverse));have:=List.reverse_prefix.2 this;rw [List.reverse_reverse] at this;exact this
 obtain ⟨q,hq⟩:=hp;cases ht:dX (x::r) with
 |nil=>rw [ht] at hn;cases hn
 |cons y z=>
  rw [ht] at hq;injection hq with h1 h2
  exact ⟨z,by rw [h1]⟩
theorem uU (n:Nat) (b:Bool) (base:Int) (hb:0<=base/\base<=16) (t:List UInt8) (hn:27000<=n):
  (bif !(pl base t).2.1 then some no else
   Option.bind (whole (n+1) b (pl base t).1 0) fun y8=>
   bif y8.1.1 then
    some (((!(y8.1.2.1==([48]:List UInt8))),(y8.1.2.1,(y8.1.2.2.1,y8.1.2.2.2))),Bool.true,())
   else
   some ((Bool.false,(y8.1.2.1,(y8.1.2.2.1,y8.1.2.2.2))),Bool.true,()))=some (fin b (pl base t)):=by
 have hl:=L8 base hb t;rw [vu (n+1) b _ 0 (by omega) (by omega) (by omega) (by omega)];unfold fin;cases h:(pl base t).2.1 with
 |false=>rfl
 |true=>
  simp only [zag,zab,zac,zaa];rcases OO base t h with hf |⟨x,r,hf,hx⟩
  .rw [hf];cases b<;>rfl
  .obtain ⟨q,hq⟩:=Ml x r hx
   have e1:((x::r)==([48]:List UInt8))=false:=by show ((x==48) &&_)=false;rw [hx];rfl
   have e2:((x::q)==([48]:List UInt8))=false:=by show ((x==48) &&_)=false;rw [hx];rfl
   rw [hf,e1];unfold norm;rw [TN x r hx,hq];simp only [List.isEmpty_cons,zab,e2,Bool.not_false,Bool.and_true];cases b<;>rfl
theorem zO (n:Nat) (b:Bool) (base:Int) (hb:0<=base/\base<=16) (t:List UInt8) (hn:27000<=n):
  (bif !(pl base t).2.1 then some no else
   bif b then
    Option.bind (dU (n+1) (!((pl base t).1==([48]:List UInt8))) (pl base t).1 (0:Int)) fun y14=>
    some ((y14.1.1,(y14.1.2.1,(y14.1.2.2.1,y14.1.2.2.2))),Bool.true,())
   else
   Option.bind (dU (n+1) Bool.false (pl base t).1 (0:Int)) fun y15=>
   some ((y15.1.1,(y15.1.2.1,(y15.1.2.2.1,y15.1.2.2.2))),Bool.true,()))=some (fin b (pl base t)):=by
 have hl:=L8 base hb t;rw [nJ (n+1) _ _ 0 (by omega) (by omega) (by omega) (by omega),nJ (n+1) _ _ 0 (by omega) (by omega) (by omega) (by omega)];unfold fin;cases h:(pl base t).2.1 with
 |false=>rfl
 |true=>cases b<;>rfl
def iv (s:List UInt8):Kd×bv:=
 bif pre [48,111] s then fin false (pl 8 (s.drop 2)) else bif pre [48,120] s then fin false (pl 16 (s.drop 2)) else fin (iS s).2 (pl 10 (iS s).1)
theorem N0 (n:Nat) (s:List UInt8) (hn:27000<=n):int n s=some (iv s):=by
 unfold int iv;rw [lF,lF,jf];simp only [zaa];cases h1:pre [48,111] s with
 |true=>
  simp only [zac];rw [nN n _ 8 (by omega) hn];exact uU n false 8 (by omega) (s.drop 2) hn
 |false=>
  simp only [zab];cases h2:pre [48,120] s with
  |true=>
   simp only [zac];rw [nN n _ 16 (by omega) hn];exact uU n false 16 (by omega) (s.drop 2) hn
  |false=>
   simp only [zab];rw [nN n _ 10 (by omega) hn];exact uU n (iS s).2 10 (by omega) (iS s).1 hn
theorem Qi (s:List UInt8) (h:pre [48,111] s=true):pre [48,120] s=false:=by
 match s,h with
 | [],h=>cases h
 | [x],h=>simp [pre] at h
 |x::y::r,h=>
  simp only [pre,Bool.and_true,zae,beq_iff_eq] at h ⊢;rw [h.2];simp
theorem Gd (c:UInt8) (s:List UInt8) (h:pre [48,c] s=true):(iS s).2=false/\2<=s.length:=by
 match s,h with
 | [],h=>cases h
 | [x],h=>simp [pre] at h
 |x::y::r,h=>
  simp only [pre,Bool.and_true,zae,beq_iff_eq] at h;rw [h.1];exact ⟨rfl,by simp⟩
theorem HL (n:Nat) (s:List UInt8) (hn:27000<=n):OW n s=some (iv s):=by
 unfold OW iv;rw [kR,gV,gV];simp only [zaa,eh];cases h1:pre [48,111] s with
 |true=>
  obtain ⟨k1,k2⟩:=Gd _ s h1;simp only [zac,Qi s h1,zab,af (show (2:Int)<=len s by unfold len;omega)];rw [mi n _ 8 (by omega) hn,k1];exact zO n false 8 (by omega) (s.drop 2) hn
 |false=>
  simp only [zab];cases h2:pre [48,120] s with
  |true=>
   obtain ⟨k1,k2⟩:=Gd _ s h2;simp only [zac,af (show (2:Int)<=len s by unfold len;omega)];rw [mi n _ 16 (by omega) hn,k1];exact zO n false 16 (by omega) (s.drop 2) hn
  |false=>
   simp only [zab];rw [mi n _ 10 (by omega) hn];exact zO n (iS s).2 10 (by omega) (iS s).1 hn
def vf:Int->List UInt8->Int
 |a,[]=>a
 |a,c::r=>vf (a*10+(ub c - 48)) r
def qW:List UInt8->Bool
 | []=>true
 |c::r=>AK c &&qW r
theorem ml:∀ (d:List UInt8),((run d).length=d.length)↔qW d=true
 | []=>⟨fun _=>rfl,fun _=>rfl⟩
 |c::r=>by
  have ih:=ml r;unfold run at ih ⊢;simp only [List.takeWhile,qW];cases AK c with
  |false=>simp
  |true=>simp only [zad,Bool.true_and,←ih];omega
theorem LO (d:List UInt8) (h:qW d=true):run d=d:=by
 have:=(ml d).2 h;have h2:=pU d;rw [this,List.take_length] at h2;exact h2.symm
theorem vt (c:UInt8) (h:AK c=true):48<=ub c/\ub c<=57:=by
 unfold AK at h;unfold ub;rw [zae,Nat.ble_eq,Nat.ble_eq] at h;omega
theorem pC:∀ (d:List UInt8),qW d=true->∀ (i:Nat) (h:i<d.length),AK d[i]=true
 | [],_,i,h=>by simp at h
 |c::r,ha,i,h=>by
  simp only [qW,zae] at ha;cases i with
  |zero=>exact ha.1
  |succ i=>exact pC r ha.2 i (by simpa using h)
theorem QO (c:UInt8) (h:AK c=true):ub (c - 48)=ub c - 48:=by
 have hb:=vt c h;unfold ub at hb ⊢;have e:(48:UInt8)<=c:=by rw [UInt8.le_iff_toNat_le];show 48<=c.toNat;omega
 rw [UInt8.toNat_sub_of_le _ _ e]
 show ((c.toNat - 48:Nat):Int)=(c.toNat:Int) - 48
 omega
theorem RN (i:Nat) (h:i<=8):(10:Int)^i<=100000000/\(1:Int)<=10^i/\(10:Int)^(i+1)=10^i*10:=by
 refine ⟨?_,?_,Int.pow_succ ..⟩
 .have:=Nat.pow_le_pow_right (show 0<10 by decide) h
  have e:((10^i:Nat):Int)=10^i:=by norm_cast
  rw [←e];omega
 .have:0<10^i:=Nat.pow_pos (show 0<10 by decide)
  have e:((10^i:Nat):Int)=10^i:=by norm_cast
  rw [←e];omega
theorem MI (t d:List UInt8) (ha:qW d=true) (hl:d.length<=9):∀ (m i n:Nat) (a:Int),i+m=d.length->0<=a/\a<10^i->m+1<=n->
  iW n t a d (len d) (i:Int)=some ((t,(vf a (d.drop i),())),()):=by
 intro m
 induction m with
 |zero=>
  intro i n a h hb hn;obtain ⟨n,rfl⟩:=pS n;simp only [iW,len,aC (show ((d.length:Nat):Int)<=(i:Int) by omega),zab,List.drop_eq_nil_of_le (show d.length<=i by omega),vf]
 |succ m ih=>
  intro i n a h hb hn;obtain ⟨n,rfl⟩:=pS n;have hi:i<d.length:=by omega
  have hd:=pC d ha i hi;have hu:=vt _ hd;obtain ⟨p1,p2,p3⟩:=RN i (by omega);have w:=wS i;have w1:zao (zao (a*10)+zao (ub (d[i] - 48)))=a*10+(ub d[i] - 48):=by
   rw [dR,QO _ hd,aj (x:=a*10),aj]<;>omega
  have q:Nat.blt (UInt8.toNat 9) (UInt8.toNat (d[i] - 48))=false:=by
   have:=QO _ hd;unfold ub at this hu;have e:UInt8.toNat 9=9:=rfl;rw [e];cases hq:Nat.blt 9 (UInt8.toNat (d[i] - 48)) with
   |false=>rfl
   |true=>
    have:=Nat.le_of_ble_eq_true hq;omega
  have ih:=ih (i+1) n (a*10+(ub d[i] - 48)) (by omega) (by rw [p3];omega) (by omega);rw [List.drop_eq_getElem_cons hi];unfold len at ih ⊢;simp only [iW,ao (show (i:Int)<((d.length:Nat):Int) by omega),af (show (0:Int)<=(i:Int) by omega),zac,Int.toNat_natCast,zam hi,zaa,w,w1,q,zab,vf,ih]
theorem uu (d:List UInt8):∀ (a:Int) (i:Nat),qW d=true->i+d.length<=9->0<=a/\a<10^i->0<=vf a d/\vf a d<1000000000:=by
 induction d with
 |nil=>
  intro a i _ h hb;simp only [vf];rw [zah] at h;have:=Nat.pow_le_pow_right (show 0<10 by decide) h;have e:((10^i:Nat):Int)=10^i:=by norm_cast
  rw [←e] at hb;simp only [Nat.add_zero] at this;omega
 |cons c r ih=>
  intro a i ha h hb;simp only [qW,zae] at ha;rw [zad] at h;have hu:=vt _ ha.1;obtain ⟨p1,p2,p3⟩:=RN i (by omega);exact ih _ (i+1) ha.2 (by omega) (by rw [p3];omega)
def Dp (d:List UInt8):Bool:= !d.isEmpty &&(Nat.ble d.length 9 &&qW d)
def ex:List UInt8->Int×Bool
 | []=>(0,true)
 |c::r=>bif c !=101 &&c !=69 then (0,false) else bif Dp (iS r).1 then (bif (iS r).2 then -(vf 0 (iS r).1) else vf 0 (iS r).1,true) else (0,false)
theorem Ny (s:List UInt8): -1000000000<=(ex s).1/\(ex s).1<=1000000000:=by
 cases s with
 |nil=>simp [ex]
 |cons c r=>
  simp only [ex];cases (c !=101 &&c !=69) with
  |true=>simp
  |false=>
   cases h:Dp (iS r).1 with
   |false=>simp
   |true=>
    unfold Dp at h;rw [zae,zae,Nat.ble_eq] at h;have:=uu (iS r).1 0 0 h.2.2 (by omega) (by simp);cases (iS r).2<;>simp only [zac,zab]<;>omega
theorem mU (n:Nat) (s:List UInt8) (hs:s.length<=100000) (hn:s.length+20<=n):exponent n s=some ((ex s).1,(ex s).2,()):=by
 cases s with
 |nil=>rfl
 |cons c r=>
  unfold exponent;have e0:((c::r)==([]:List UInt8))=false:=rfl;have e1:(Option.bind ((c::r)[0]?) fun x1=>bif (x1 !=(101:UInt8)) then Option.bind ((c::r)[0]?) fun x2=>some (x2 !=(69:UInt8)) else some Bool.false)=some (c !=101 &&c !=69):=by
   show (bif c !=101 then some (c !=69) else some false)=_
   cases c !=101<;>rfl
  have hsl:=tK r;rw [e0,zab,e1,zaa];simp only [ex];cases (c !=101 &&c !=69) with
  |true=>rfl
  |false=>
   rw [zab,zab,af (show (1:Int)<=len (c::r) by simp only [len,zad];omega),zac,eh]
   show Option.bind (signed n r) _=_
   rw [jf,zaa];simp only [zad] at hs hn;generalize hd:(iS r).1=d at*;generalize (iS r).2=b at*;rw [fS];cases he:d.isEmpty with
   |true=>rw [isEmpty_eq he];rfl
   |false=>
    have hpos:0<d.length:=by
     cases d with
     |nil=>cases he
     |cons=>simp
    rw [zab];by_cases h9:9<d.length
    .have:Dp d=false:=by
      unfold Dp;have:Nat.ble d.length 9=false:=by
       cases hq:Nat.ble d.length 9 with
       |false=>rfl
       |true=>have:=Nat.le_of_ble_eq_true hq;omega
      rw [this];simp
     rw [ao (show 9<len d by unfold len;omega),zac,this];rfl
    rw [aC (show len d<=9 by unfold len;omega),zab,nG (n+2) d (by omega) (by omega),zaa];have h9':Nat.ble d.length 9=true:=Nat.ble_eq_true_of_le (by omega);cases ha:qW d with
    |false=>
     have h1:¬ ((run d).length=d.length):=fun h=>by
      have:=(ml d).1 h;rw [ha] at this;cases this
     have h2:(((run d).length:Int) !=len d)=true:=by
      rw [bne_iff_ne];unfold len;omega
     have:Dp d=false:=by unfold Dp;rw [ha];simp
     rw [h2,zac,this];rfl
    |true=>
     have h2:(((run d).length:Int) !=len d)=false:=by
      rw [(ml d).2 ha];unfold len;simp
     have:Dp d=true:=by unfold Dp;rw [ha,he,h9'];rfl
     rw [h2,zab,this,ao (show 0<len d by unfold len;omega),ao (show len d<19 by unfold len;omega),zac,zaa,zac];have hg:d[0]? =some d[0]:=zam hpos;have hd0:=vt _ (pC d ha 0 hpos);have n45:(d[0]==45)=false:=by
      rw [beq_eq_false_iff_ne];intro h;rw [h] at hd0;exact absurd hd0.1 (by decide)
     have n43:(d[0]==43)=false:=by
      rw [beq_eq_false_iff_ne];intro h;rw [h] at hd0;exact absurd hd0.1 (by decide)
     have hv:=MI d d ha (by omega) d.length 0 (n+2) 0 (by omega) (by simp) (by omega);rw [List.drop_zero] at hv;rw [hg,zaa,n45,zab,zaa,n43,zaa,zab];rw [show iW (n+2) d (0:Int) d (len d) (0:Int)=_ from hv,zaa];simp only [hg,zaa,n45,zab];have hb:=uu d 0 0 ha (by omega) (by simp);have w:zao ((0:Int) - vf 0 d)= -(vf 0 d):=by rw [aj]<;>omega
     rw [w];cases b<;>rfl
def rV (s:List UInt8):Bool:=s== [46,110,97,110] ||(s== [46,78,97,78] ||s== [46,78,65,78])
def isInf (s:List UInt8):Bool:=s== [46,105,110,102] ||(s== [46,73,110,102] ||s== [46,73,78,70])
def Ry:Kd×bv:=((false,([],(0,2))),(true,()))
def SF (b:Bool):Kd×bv:=((b,([],(0,1))),(true,()))
def tail (w p v:List UInt8) (b:Bool):Kd×bv:=
 bif !(ex v).2 ||((w.isEmpty &&p.isEmpty) ||aD 5000 (len w+len p)) then no else (norm b (w++p) ((ex v).1 - len p),(true,()))
def num (t:List UInt8) (b:Bool):Kd×bv:=
 bif pre [46] (t.drop (run t).length) then tail (run t) (run (t.drop ((run t).length+1))) (t.drop ((run t).length+1+(run (t.drop ((run t).length+1))).length)) b
 else tail (run t) [] (t.drop (run t).length) b
def fl (s:List UInt8):Kd×bv:=bif rV s then Ry else bif isInf (iS s).1 then SF (iS s).2 else num (iS s).1 (iS s).2
theorem Et (n:Nat) (s:List UInt8):named n s=some (bif rV s then Ry else bif isInf (iS s).1 then SF (iS s).2 else no):=by
 unfold named rV isInf;rw [jf];simp only [zaa];cases s== [46,110,97,110]<;>cases s== [46,78,97,78]<;>cases s== [46,78,65,78]<;>cases (iS s).1== [46,105,110,102]<;>cases (iS s).1== [46,73,110,102]<;>cases (iS s).1== [46,73,78,70]<;>rfl
theorem wV (n:Nat) (w p v:List UInt8) (b:Bool) (hw:w.length<=8100) (hp:p.length<=8100) (hn:27000<=n):
  (Option.bind (bif (!(ex v).2) then
    some Bool.true
   else
   bif (w==([]:List UInt8)) then
    bif (p==([]:List UInt8)) then
     some Bool.true
    else
    some (Go.Iv.aD (5000:Int) (zao (len w+len p)))
   else
   some (Go.Iv.aD (5000:Int) (zao (len w+len p)))) fun b7=>
  bif b7 then
   some no
  else
  bif (room (w.length+p.length)) then
  Option.bind (whole (n+1) b (w++p) (zao ((ex v).1 - len p))) fun y8=>
  some ((y8.1.1,(y8.1.2.1,(y8.1.2.2.1,y8.1.2.2.2))),Bool.true,())
  else none)=some (tail w p v b):=by
 have hb:=Ny v;have w1:zao (len w+len p)=len w+len p:=by unfold len;rw [aj]<;>omega
 have w2:zao ((ex v).1 - len p)=(ex v).1 - len p:=by unfold len;rw [aj]<;>omega
 rw [fS,fS,w1,w2,vu (n+1) b (w++p) _ (by unfold len;omega) (by unfold len;omega) (by simp;omega) (by simp;omega),aV (show w.length+p.length<=1000000 by omega)];unfold tail;cases (ex v).2<;>cases w.isEmpty<;>cases p.isEmpty<;>cases aD 5000 (len w+len p)<;>rfl
theorem Dx (n:Nat) (s:List UInt8) (hs:s.length<=8100) (hn:27000<=n):float n s=some (fl s):=by
 unfold float fl;rw [Et,zaa];cases hnan:rV s with
 |true=>rfl
 |false=>
  simp only [zab];cases hinf:isInf (iS s).1 with
  |true=>rfl
  |false=>
   simp only [zab,no];rw [jf];simp only [zaa,eh,Nat.sub_zero,List.drop_zero];have hsl:=tK s;generalize (iS s).1=t at*;generalize (iS s).2=b at*;have hr:=ph t;rw [nG (n+3) t (by omega) (by omega)];simp only [zaa,len,Int.toNat_natCast,af (show (0:Int)<=((run t).length:Nat) by omega),af (show (((run t).length:Nat):Int)<=(t.length:Nat) by omega),zai,zac,fA,pU,eh];unfold num;cases hp:pre [46] (t.drop (run t).length) with
   |false=>
    simp only [zab];rw [mU n _ (by simp;omega) (by simp;omega)];simp only [zaa];have:=wV n (run t) [] (t.drop (run t).length) b (by omega) (by simp) hn;exact this
   |true=>
    have hpl:=oH _ _ hp;simp only [List.length_drop,List.length_singleton] at hpl;have hr2:=ph (t.drop ((run t).length+1));rw [List.length_drop] at hr2;simp only [zac,List.length_drop,af (show (1:Int)<=((t.length - (run t).length:Nat):Int) by omega),zak];rw [nG (n+3) _ (by simp;omega) (by simp;omega)];have w:zao ((1:Int)+((run (t.drop ((run t).length+1))).length:Nat))=((1+(run (t.drop ((run t).length+1))).length:Nat):Int):=by rw [aj]<;>omega
    simp only [zaa,w,Int.toNat_natCast,af (show (0:Int)<=((1+(run (t.drop ((run t).length+1))).length:Nat):Int) by omega),af (show (1:Int)<=((1+(run (t.drop ((run t).length+1))).length:Nat):Int) by omega),
     af (show ((1+(run (t.drop ((run t).length+1))).length:Nat):Int)<=((t.length - (run t).length:Nat):Int) by omega),zai,zac]
    have e1:(run t).length+(1+(run (t.drop ((run t).length+1))).length)=(run t).length+1+(run (t.drop ((run t).length+1))).length:=by omega
    have e2:List.take (1+(run (t.drop ((run t).length+1))).length - 1) (List.drop ((run t).length+1) t)=run (t.drop ((run t).length+1)):=by
     rw [Nat.add_sub_cancel_left,pU]
    rw [e1,e2,mU n _ (by simp;omega) (by simp;omega)];simp only [zaa];exact wV n (run t) (run (t.drop ((run t).length+1))) _ b (by omega) (by omega) hn
theorem QC (t4:List UInt8) (t5:Bool) (t6 t8:List UInt8) (t11:Bool) (d:List UInt8) (c0:Bool) (c1:List UInt8) (c2 c3:Int) (ha:qW d=true) (hl:d.length<=9):∀ (m i n:Nat) (a:Int),i+m=d.length->0<=a/\a<10^i->m+1<=n->
  kp n t4 t5 t6 t8 a t11 d (d.length:Nat) (i:Int) c0 c1 c2 c3=some (((),(t4,(t5,(t6,(t8,(vf a (d.drop i),(t11,()))))))),((c0,(c1,(c2,(c3,())))),())):=by
 intro m
 induction m with
 |zero=>
  intro i n a h hb hn;obtain ⟨n,rfl⟩:=pS n;simp only [kp,aC (show ((d.length:Nat):Int)<=(i:Int) by omega),zab,List.drop_eq_nil_of_le (show d.length<=i by omega),vf]
 |succ m ih=>
  intro i n a h hb hn;obtain ⟨n,rfl⟩:=pS n;have hi:i<d.length:=by omega
  have hd:=pC d ha i hi;have hu:=vt _ hd;obtain ⟨p1,p2,p3⟩:=RN i (by omega);have w:=wS i;have w1:zao (zao (zao (a*10)+zao (ub d[i])) - 48)=a*10+(ub d[i] - 48):=by
   rw [dR,aj (x:=a*10),aj (x:=a*10+ub d[i]),aj]<;>omega
  have ih:=ih (i+1) n (a*10+(ub d[i] - 48)) (by omega) (by rw [p3];omega) (by omega);rw [List.drop_eq_getElem_cons hi];simp only [kp,ao (show (i:Int)<((d.length:Nat):Int) by omega),af (show (0:Int)<=(i:Int) by omega),zac,Int.toNat_natCast,zam hi,zaa,w,w1,vf,ih]
def Sn:List UInt8->Bool
 | []=>false
 |c::_=>c==101 ||c==69
theorem RS (t:List UInt8) (i:Nat):(bif aD (i:Int) (len t) then
   bif ak (0:Int) (i:Int) then
   Option.bind (t[(Int.toNat (i:Int))]?) fun x3=>some (x3==(46:UInt8))
   else none
  else some Bool.false)=some (pre [46] (t.drop i)):=by
 by_cases h:i<t.length
 .rw [ao (show (i:Int)<len t by unfold len;omega),zac,af (show (0:Int)<=(i:Int) by omega),zac,Int.toNat_natCast,zam h,zaa,List.drop_eq_getElem_cons h,Si]
 .rw [aC (show len t<=(i:Int) by unfold len;omega),zab,List.drop_eq_nil_of_le (by omega)];rfl
theorem UK (t:List UInt8) (i:Nat):(bif aD (i:Int) (len t) then
    bif ak (0:Int) (i:Int) then
    Option.bind (t[(Int.toNat (i:Int))]?) fun x9=>
    bif (x9==(101:UInt8)) then
     some Bool.true
    else
    bif ak (0:Int) (i:Int) then
    Option.bind (t[(Int.toNat (i:Int))]?) fun x10=>
    some (x10==(69:UInt8))
    else none
    else none
   else
   some Bool.false)=some (Sn (t.drop i)):=by
 by_cases h:i<t.length
 .rw [ao (show (i:Int)<len t by unfold len;omega),zac,af (show (0:Int)<=(i:Int) by omega),zac,Int.toNat_natCast,zam h,zaa,List.drop_eq_getElem_cons h]
  simp only [zac,zaa,Sn];cases t[i]==101<;>rfl
 .rw [aC (show len t<=(i:Int) by unfold len;omega),zab,List.drop_eq_nil_of_le (by omega)];rfl
theorem S4 (d:List UInt8):(bif (((run d).length:Int) !=len d) then
    some Bool.true
   else
   bif (Go.Iv.aD ((run d).length:Int) (1:Int)) then
    some Bool.true
   else
   some (Go.Iv.aD (9:Int) ((run d).length:Int)))=some (!Dp d):=by
 cases ha:qW d with
 |false=>
  have h1:¬ ((run d).length=d.length):=fun h=>by
   have:=(ml d).1 h;rw [ha] at this;cases this
  have h2:(((run d).length:Int) !=len d)=true:=by
   rw [bne_iff_ne];unfold len;omega
  have:Dp d=false:=by unfold Dp;rw [ha];simp
  rw [h2,this];rfl
 |true=>
  have h2:(((run d).length:Int) !=len d)=false:=by
   rw [(ml d).2 ha];unfold len;simp
  rw [h2,LO d ha];unfold Dp;rw [ha,Bool.and_true,zab];cases d with
  |nil=>rfl
  |cons c r=>
   rw [aC (show (1:Int)<=((c::r).length:Nat) by simp only [zad];omega),zab];by_cases h9:(c::r).length<=9
   .rw [aC (show (((c::r).length:Nat):Int)<=9 by omega),Nat.ble_eq_true_of_le h9];rfl
   .have:Nat.ble (c::r).length 9=false:=by
     cases hq:Nat.ble (c::r).length 9 with
     |false=>rfl
     |true=>exact absurd (Nat.le_of_ble_eq_true hq) h9
    rw [ao (show 9<(((c::r).length:Nat):Int) by omega),this];rfl
theorem UD (v:List UInt8) (h:Sn v=true):∃ c r,v=c::r/\ex v=(bif Dp (iS r).1 then (bif (iS r).2 then -(vf 0 (iS r).1) else vf 0 (iS r).1,true) else (0,false)):=by
 cases v with
 |nil=>cases h
 |cons c r=>
  refine ⟨c,r,rfl,?_⟩;have:(c !=101 &&c !=69)=false:=by
   simp only [Sn] at h;rw [bne,bne];cases h1:c==101<;>cases h2:c==69<;>rw [h1,h2] at h<;>first |rfl |cases h
  simp only [ex,this,zab]
theorem Uy (v:List UInt8) (h:Sn v=false):ex v=(0,v.isEmpty):=by
 cases v with
 |nil=>rfl
 |cons c r=>
  have:(c !=101 &&c !=69)=true:=by
   simp only [Sn] at h;rw [bne,bne];cases h1:c==101<;>cases h2:c==69<;>rw [h1,h2] at h<;>first |rfl |cases h
  simp only [ex,this,zac,List.isEmpty_cons]
theorem tO (n:Nat) (w p:List UInt8) (b:Bool) (e:Int) (he: -1000000000<=e/\e<=1000000000) (hw:w.length<=8100) (hp:p.length<=8100) (hn:27000<=n):
  (bif (room (w.length+p.length)) then
   Option.bind (dU n b (w++p) (zao (e - len p))) fun y20=>
   some ((y20.1.1,(y20.1.2.1,(y20.1.2.2.1,y20.1.2.2.2))),Bool.true,())
   else none)=some (norm b (w++p) (e - len p),true,()):=by
 have w2:zao (e - len p)=e - len p:=by unfold len;rw [aj]<;>omega
 rw [w2,nJ n b (w++p) _ (by unfold len;omega) (by unfold len;omega) (by simp;omega) (by simp;omega),aV (show w.length+p.length<=1000000 by omega)];rfl
theorem B3 (n:Nat) (t w p:List UInt8) (b:Bool) (j:Nat) (hj:j<=t.length) (ht:t.length<=8100) (hw:w.length<=8100) (hp:p.length<=8100) (hn:27000<=n)
  (hg:((w.isEmpty &&p.isEmpty) ||aD 5000 (len w+len p))=false):
  (Option.bind (bif (Go.Iv.aD (j:Int) (len t)) then
    bif (Go.Iv.ak (0:Int) (j:Int)) then
    Option.bind (t[(Int.toNat (j:Int))]?) fun x9=>
    bif (x9==(101:UInt8)) then
     some Bool.true
    else
    bif (Go.Iv.ak (0:Int) (j:Int)) then
    Option.bind (t[(Int.toNat (j:Int))]?) fun x10=>
    some (x10==(69:UInt8))
    else none
    else none
   else
   some Bool.false) fun b11=>
  bif b11 then
   bif ((Go.Iv.ak (0:Int) (zao ((j:Int)+(1:Int)))) &&(Go.Iv.ak (zao ((j:Int)+(1:Int))) (len t))) then
   Option.bind (jh n (List.take ((List.length t) - (Int.toNat (zao ((j:Int)+(1:Int))))) (List.drop (Int.toNat (zao ((j:Int)+(1:Int)))) t))) fun y12=>
   Option.bind (wL n y12.1 (0:Int)) fun y13=>
   Option.bind (bif (y13.2.1 !=(len y12.1)) then
     some Bool.true
    else
    bif (Go.Iv.aD y13.2.1 (1:Int)) then
     some Bool.true
    else
    some (Go.Iv.aD (9:Int) y13.2.1)) fun b15=>
   bif b15 then
    some ((Bool.false,(([]:List UInt8),((0:Int),(0:Int)))),Bool.false,())
   else
   Option.bind (kp (n+2) t b w p (0:Int) y12.2.1 y13.1 y13.2.1 (0:Int) Bool.false ([]:List UInt8) (0:Int) (0:Int)) fun y19=>
   bif y19.1.2.2.2.2.2.2.1 then
    bif ((len y19.1.2.1) !=(len y19.1.2.1)) then
     some ((Bool.false,(([]:List UInt8),((0:Int),(0:Int)))),Bool.false,())
    else
    bif (room ((List.length y19.1.2.2.2.1)+(List.length y19.1.2.2.2.2.1))) then
    Option.bind (dU n y19.1.2.2.1 (y19.1.2.2.2.1++y19.1.2.2.2.2.1) (zao ((zao ((0:Int) - y19.1.2.2.2.2.2.1)) - (len y19.1.2.2.2.2.1)))) fun y20=>
    some ((y20.1.1,(y20.1.2.1,(y20.1.2.2.1,y20.1.2.2.2))),Bool.true,())
    else none
   else
   bif ((len y19.1.2.1) !=(len y19.1.2.1)) then
    some ((Bool.false,(([]:List UInt8),((0:Int),(0:Int)))),Bool.false,())
   else
   bif (room ((List.length y19.1.2.2.2.1)+(List.length y19.1.2.2.2.2.1))) then
   Option.bind (dU n y19.1.2.2.1 (y19.1.2.2.2.1++y19.1.2.2.2.2.1) (zao (y19.1.2.2.2.2.2.1 - (len y19.1.2.2.2.2.1)))) fun y21=>
   some ((y21.1.1,(y21.1.2.1,(y21.1.2.2.1,y21.1.2.2.2))),Bool.true,())
   else none
   else none
  else
  bif ((j:Int) !=(len t)) then
   some ((Bool.false,(([]:List UInt8),((0:Int),(0:Int)))),Bool.false,())
  else
  bif (room ((List.length w)+(List.length p))) then
  Option.bind (dU n b (w++p) (zao ((0:Int) - (len p)))) fun y22=>
  some ((y22.1.1,(y22.1.2.1,(y22.1.2.2.1,y22.1.2.2.2))),Bool.true,())
  else none)=some (tail w p (t.drop j) b):=by
 rw [UK,zaa];unfold tail;rw [hg,Bool.or_false];cases hE:Sn (t.drop j) with
 |true=>
  obtain ⟨c,r,hv,hx⟩:=UD _ hE;have hjl:j<t.length:=by
   have:=congrArg List.length hv;simp only [List.length_drop,zad] at this;omega
  have hr:t.drop (j+1)=r:=by
   rw [←zak,hv];rfl
  have wj:=wS j;have hrl:=congrArg List.length hr;rw [List.length_drop] at hrl;have hsl:=tK r;rw [zac,wj,af (show (0:Int)<=((j+1:Nat):Int) by omega),af (show ((j+1:Nat):Int)<=len t by unfold len;omega),zai,zac,Int.toNat_natCast,eh,hr,kR,zaa];rw [hx];generalize (iS r).1=d at*;generalize (iS r).2=m at*;have hrun:=qO n d 0 (by omega) (by omega) (by omega);rw [List.drop_zero,Nat.zero_add] at hrun;rw [show (0:Int)=((0:Nat):Int) from rfl,hrun,zaa];rw [show ((0:Nat):Int)=(0:Int) from rfl,S4,zaa];cases ho:Dp d with
  |false=>rfl
  |true=>
   unfold Dp at ho;rw [zae,zae,Nat.ble_eq] at ho;have hb:=uu d 0 0 ho.2.2 (by omega) (by simp);have hl:=QC t b w p m d false [] 0 0 ho.2.2 ho.2.1 d.length 0 (n+2) 0 (by omega) (by simp) (by omega);rw [List.drop_zero] at hl;have w0:zao ((0:Int) - vf 0 d)= -(vf 0 d):=by rw [aj]<;>omega
   have hne:∀ x:Int,(x !=x)=false:=fun x=>by simp
   rw [LO d ho.2.2,zag,zab];rw [show kp (n+2) t b w p (0:Int) m d (d.length:Nat) (0:Int) false [] 0 0=_ from hl,zaa];simp only [hne,zab,w0,zac];rw [tO n w p b _ (by omega) hw hp hn,tO n w p b _ (by omega) hw hp hn];cases m<;>rfl
 |false=>
  rw [zab,Uy _ hE];by_cases hl:j=t.length
  .have h1:((j:Int) !=len t)=false:=by subst hl;unfold len;simp
   have h2:(t.drop j).isEmpty=true:=by rw [List.drop_eq_nil_of_le (by omega)];rfl
   rw [h1,zab,tO n w p b 0 (by omega) hw hp hn,h2];rfl
  .have h1:((j:Int) !=len t)=true:=by rw [bne_iff_ne];unfold len;omega
   have h2:(t.drop j).isEmpty=false:=by
    rw [List.drop_eq_getElem_cons (show j<t.length by omega)];rfl
   rw [h1,h2];rfl
theorem PM (s:List UInt8) (h:rV s=true):isInf (iS s).1=false:=by
 unfold rV at h;rw [Bool.or_eq_true,Bool.or_eq_true,beq_iff_eq,beq_iff_eq,beq_iff_eq] at h;rcases h with rfl |rfl |rfl<;>decide
theorem AR (n:Nat) (s:List UInt8) (hs:s.length<=8100) (hn:27000<=n):AB n s=some (fl s):=by
 have hsn:=PM s;have hsl:=tK s;unfold AB fl;rw [kR];rw [zaa];generalize (iS s).1=t at*;generalize (iS s).2=b at*;generalize hX:(Option.bind (wL n t (0:Int)) _)=X;have e:X=some (num t b):=by
  rw [←hX];clear hX hsn;have hr:=ph t;have h1:=qO n t 0 (by omega) (by omega) (by omega);rw [List.drop_zero,Nat.zero_add] at h1;rw [show wL n t (0:Int)=_ from h1,zaa];unfold num;generalize hw:run t=w at*;rw [RS,zaa];cases hp:pre [46] (t.drop w.length) with
  |true=>
   have hpl:=oH _ _ hp;simp only [List.length_drop,List.length_singleton] at hpl;have hr2:=ph (t.drop (w.length+1));rw [List.length_drop] at hr2;have wi:zao ((w.length:Int)+1)=((w.length+1:Nat):Int):=by rw [aj]<;>omega
   rw [zac,zac,wi,qO n t (w.length+1) (by omega) (by omega) (by omega),zaa];generalize hq:run (t.drop (w.length+1))=p at*;have wl:zao (len w+len p)=len w+len p:=by unfold len;rw [aj]<;>omega
   rw [fS,fS,wl];have hB:(bif w.isEmpty then bif p.isEmpty then some Bool.true else some (aD 5000 (len w+len p)) else some (aD 5000 (len w+len p)))=some ((w.isEmpty &&p.isEmpty) ||aD 5000 (len w+len p)):=by
    cases w.isEmpty<;>cases p.isEmpty<;>cases aD 5000 (len w+len p)<;>rfl
   rw [hB,zaa];cases hg:((w.isEmpty &&p.isEmpty) ||aD 5000 (len w+len p)) with
   |true=>
    unfold tail;rw [hg];rw [Bool.or_true];rfl
   |false=>
    rw [zab];exact B3 n t w p b (w.length+1+p.length) (by omega) (by omega) (by omega) (by omega) hn hg
  |false=>
   rw [zab,zab];have wl:zao (len w+0)=len w+0:=by unfold len;rw [aj]<;>omega
   rw [fS,wl];have hB:(bif w.isEmpty then some Bool.true else some (aD 5000 (len w+0)))=some ((w.isEmpty &&([]:List UInt8).isEmpty) ||aD 5000 (len w+len ([]:List UInt8))):=by
    show _=some ((w.isEmpty &&true) ||aD 5000 (len w+0))
    cases w.isEmpty<;>cases aD 5000 (len w+0)<;>rfl
   rw [hB,zaa];cases hg:((w.isEmpty &&([]:List UInt8).isEmpty) ||aD 5000 (len w+len ([]:List UInt8))) with
   |true=>
    unfold tail;rw [hg];rw [Bool.or_true];rfl
   |false=>
    rw [zab];have:=B3 n t w [] b w.length (by omega) (by omega) (by omega) (by simp) hn hg;have w0:zao (0 - len ([]:List UInt8))=0:=by decide
    rw [w0] at this;exact this
 rw [e];unfold rV at hsn;unfold rV isInf Ry SF;unfold isInf at hsn;cases h1:t== [46,105,110,102]<;>cases h2:t== [46,73,110,102]<;>cases h3:t== [46,73,78,70]<;>rw [h1,h2,h3] at hsn<;>
 cases h4:s== [46,110,97,110]<;>cases h5:s== [46,78,97,78]<;>cases h6:s== [46,78,65,78]<;>rw [h4,h5,h6] at hsn<;>first |rfl |exact absurd (hsn rfl) (by decide)
def T5:List UInt8:= [(116:UInt8),(97:UInt8),(103:UInt8),(58:UInt8),(121:UInt8),(97:UInt8),(109:UInt8),(108:UInt8),(46:UInt8),(111:UInt8),(114:UInt8),(103:UInt8),(44:UInt8),(50:UInt8),(48:UInt8),(48:UInt8),(50:UInt8),(58:UInt8)]
def Q7:List UInt8:=([110,117,108,108]:List UInt8)
def Q9:List UInt8:=([98,111,111,108]:List UInt8)
def Ty:List UInt8:=([105,110,116]:List UInt8)
def L4:List UInt8:=([102,108,111,97,116]:List UInt8)
def Ul:List UInt8:=([115,116,114]:List UInt8)
def PL (s:List UInt8):Bool:=s== [] ||(s==([126]:List UInt8) ||(s==([110,117,108,108]:List UInt8) ||(s==([78,117,108,108]:List UInt8) ||s==([78,85,76,76]:List UInt8))))
def MH (s:List UInt8):Bool:=s==([116,114,117,101]:List UInt8) ||(s==([84,114,117,101]:List UInt8) ||s==([84,82,85,69]:List UInt8))
def QD (s:List UInt8):Bool:=s==([102,97,108,115,101]:List UInt8) ||(s==([70,97,108,115,101]:List UInt8) ||s==([70,65,76,83,69]:List UInt8))
theorem Ft (n:Nat) (s:List UInt8):Gu n s=some (PL s,()):=by
 unfold Gu PL;cases s==([]:List UInt8)<;>cases s==([126]:List UInt8)<;>cases s==([110,117,108,108]:List UInt8)<;>cases s==([78,117,108,108]:List UInt8)<;>rfl
theorem A2 (n:Nat) (s:List UInt8):zB n s=some (MH s,MH s ||QD s,()):=by
 unfold zB MH QD;cases s==([116,114,117,101]:List UInt8)<;>cases s==([84,114,117,101]:List UInt8)<;>cases s==([84,82,85,69]:List UInt8)<;>cases s==([102,97,108,115,101]:List UInt8)<;>cases s==([70,97,108,115,101]:List UInt8)<;>cases s==([70,65,76,83,69]:List UInt8)<;>rfl
theorem dp (a b:List UInt8):(a==b)=(b==a):=by rw [Bool.eq_iff_iff,beq_iff_eq,beq_iff_eq];exact eq_comm
theorem DQ (s:List UInt8) (l:List ce) (hl:l.length<=1000):∀ (m k n:Nat),k+m=l.length->m+1<=n->
  p8 n s (k:Int) l=some (bif (l.drop k).any (· ==s) then .inr ((true,()),(l,())) else .inl ((),(l,()))):=by
 intro m
 induction m with
 |zero=>
  intro k n h hn;obtain ⟨n,rfl⟩:=pS n;simp only [p8,len,aC (show ((l.length:Nat):Int)<=(k:Int) by omega),zab,List.drop_eq_nil_of_le (show l.length<=k by omega),List.any_nil]
 |succ m ih=>
  intro k n h hn;obtain ⟨n,rfl⟩:=pS n;have hi:k<l.length:=by omega
  have w:=wS k;rw [List.drop_eq_getElem_cons hi,List.any_cons];simp only [p8,len,ao (show (k:Int)<((l.length:Nat):Int) by omega),af (show (0:Int)<=(k:Int) by omega),zai,zac,Int.toNat_natCast,zam hi,zaa,w];cases l[k]==s with
  |true=>rfl
  |false=>simp only [zab,Bool.false_or];exact ih (k+1) n (by omega) (by omega)
theorem Fl (s:List UInt8) (l:List ce) (hl:l.length<=1000) (n:Nat) (hn:l.length+1<=n):
  p8 n s (0:Int) l=some (bif l.any (· ==s) then .inr ((true,()),(l,())) else .inl ((),(l,()))):=by
 have:=DQ s l hl l.length 0 n (by omega) hn;rw [List.drop_zero] at this;exact this
theorem E4 (n:Nat) (s:List UInt8) (hn:10<=n):G4 n s=some (PL s,()):=by
 unfold G4;rw [Fl s _ (by simp) (n+1) (by simp only [zad,zah];omega),zaa];simp only [List.any_cons,List.any_nil,Bool.or_false];unfold PL;rw [dp s [],dp s ([126]:List UInt8),dp s ([110,117,108,108]:List UInt8),dp s ([78,117,108,108]:List UInt8),dp s ([78,85,76,76]:List UInt8)];cases ([110,117,108,108]:List UInt8)==s<;>cases ([78,117,108,108]:List UInt8)==s<;>cases ([78,85,76,76]:List UInt8)==s<;>cases ([126]:List UInt8)==s<;>cases ([]:List UInt8)==s<;>rfl
theorem IZ (n:Nat) (s:List UInt8) (hn:10<=n):Ot n s=some (MH s,()):=by
 unfold Ot;rw [Fl s _ (by simp) (n+1) (by simp only [zad,zah];omega),zaa];simp only [List.any_cons,List.any_nil,Bool.or_false];unfold MH;rw [dp s ([116,114,117,101]:List UInt8),dp s ([84,114,117,101]:List UInt8),dp s ([84,82,85,69]:List UInt8)];cases ([116,114,117,101]:List UInt8)==s<;>cases ([84,114,117,101]:List UInt8)==s<;>cases ([84,82,85,69]:List UInt8)==s<;>rfl
theorem LY (n:Nat) (s:List UInt8) (hn:10<=n):TZ n s=some (QD s,()):=by
 unfold TZ;rw [Fl s _ (by simp) (n+1) (by simp only [zad,zah];omega),zaa];simp only [List.any_cons,List.any_nil,Bool.or_false];unfold QD;rw [dp s ([102,97,108,115,101]:List UInt8),dp s ([70,97,108,115,101]:List UInt8),dp s ([70,65,76,83,69]:List UInt8)];cases ([102,97,108,115,101]:List UInt8)==s<;>cases ([70,97,108,115,101]:List UInt8)==s<;>cases ([70,65,76,83,69]:List UInt8)==s<;>rfl
def word (l:List UInt8):Prop:=l=Q7\/l=Q9\/l=Ty\/l=L4\/l=Ul
abbrev Vl:=Int×(Bool×(Kd×List UInt8))
def zN:Kd:=(false,([],(0,0)))
def T8:Vl×dg:=((0,(false,(zN,[]))),15,())
def val (tag s:List UInt8):Vl×dg:=
 bif tag==T5++Q7 then bif PL s then ((1,(false,(zN,[]))),0,()) else T8 else
 bif tag==T5++Q9 then bif MH s ||QD s then ((2,(MH s,(zN,[]))),0,()) else T8 else
 bif tag==T5++Ty then bif (iv s).2.1 then ((3,(false,((iv s).1,[]))),0,()) else T8 else
 bif tag==T5++L4 then bif (fl s).2.1 then ((4,(false,((fl s).1,[]))),0,()) else bif (iv s).2.1 then ((4,(false,((iv s).1,[]))),0,()) else T8 else
 ((5,(false,(zN,s))),0,())
end Go.Proofs.YteknbnkjelmfaaaGreatDoor.V
namespace Go.Proofs.YteknbnkjelmfaaaGreatDoor
open Go Go.Iv Go.Gv
theorem TS {α:Type} (l:List α) (k:Nat):List.take (l.length - k) (List.drop k l)=List.drop k l:=List.take_of_length_le (by simp)
theorem dh {α:Type} {l r:List α} {i:Nat} (h:l.drop i=r) (k:Nat):l[i+k]? =r[k]? :=by rw [←h,List.getElem?_drop]
theorem aV {n:Nat} (h:n<=1099511627776):room n=true:=Gc h
def Ig (c:Int):Bool:=decide (0<=c/\c<=1114111/\(c<55296\/57343<c))
theorem DY (n:Nat) (c:Int):lW n c=some (Ig c,()):=by
 unfold lW Ig;rw [dn,dn,fu,fu];by_cases h1:(0:Int)<=c<;>by_cases h2:c<=1114111<;>by_cases h3:c<55296<;>simp only [h1,h2,h3,decide_true,decide_false,zac,zab,true_and,false_and,true_or,false_or,Bool.decide_and,zaa]
def cont (x:UInt8):Prop:=128<=ub x/\ub x<=191
instance (x:UInt8):Decidable (cont x):=inferInstanceAs (Decidable (_/\_))
def v2 (a b:UInt8):Int:=(ub a%32)*64+ub b%64
def v3 (a b c:UInt8):Int:=((ub a%16)*64+ub b%64)*64+ub c%64
def v4 (a b c d:UInt8):Int:=(((ub a%8)*64+ub b%64)*64+ub c%64)*64+ub d%64
def pt:List UInt8->Option (Int×Nat)
 | []=>none
 |a::r=>
  if ub a<128 then some (ub a,1)
  else if ub a<194 then none
  else if ub a<224 then match r with
   |b::_=>if cont b then some (v2 a b,2) else none
   |_=>none
  else if ub a<240 then match r with
   |b::c::_=>if cont b/\cont c/\2048<=v3 a b c/\Ig (v3 a b c)=true then some (v3 a b c,3) else none
   |_=>none
  else if ub a<245 then match r with
   |b::c::d::_=>if cont b/\cont c/\cont d/\65536<=v4 a b c d/\Ig (v4 a b c d)=true then some (v4 a b c d,4) else none
   |_=>none
  else none
theorem yo {l:List UInt8} {c:Int} {k:Nat} (h:pt l=some (c,k)):Ig c=true/\1<=k/\k<=l.length/\0<=c/\c<=1114111:=by
 have fin:∀ {c:Int} {k:Nat},Ig c=true->1<=k->k<=l.length->Ig c=true/\1<=k/\k<=l.length/\0<=c/\c<=1114111:=fun h1 h2 h3=>by
  have:=of_decide_eq_true h1;exact ⟨h1,h2,h3,by omega,by omega⟩
 unfold pt at h
 match l,h with
 |a::r,h=>
  have ha:=iG a;dsimp only at h;split at h
  .cases h;exact fin (decide_eq_true (by omega)) (by omega) (by simp)
  split at h
  .cases h
  split at h
  .split at h
   .split at h
    .cases h
     refine fin (decide_eq_true ?_) (by omega) (by simp);unfold v2;omega
    .cases h
   .cases h
  split at h
  .split at h
   .split at h
    .rename_i hh;cases h;exact fin hh.2.2.2 (by omega) (by simp)
    .cases h
   .cases h
  split at h
  .split at h
   .split at h
    .rename_i hh;cases h;exact fin hh.2.2.2.2 (by omega) (by simp)
    .cases h
   .cases h
  .cases h
theorem Tt {x:Int} (h1:0<=x) (h2:x<1000):zd .i64 x 63=x%64:=oD 6 (by decide) x h1 (by omega)
theorem Tw {x:Int} (h1:0<=x) (h2:x<1000):zd .i64 x 31=x%32:=oD 5 (by decide) x h1 (by omega)
theorem Tl {x:Int} (h1:0<=x) (h2:x<1000):zd .i64 x 15=x%16:=oD 4 (by decide) x h1 (by omega)
theorem and7 {x:Int} (h1:0<=x) (h2:x<1000):zd .i64 x 7=x%8:=oD 3 (by decide) x h1 (by omega)
theorem xk (n:Nat) (b:List UInt8) (N L c:Int) (k:Nat) (y:UInt8) (hk:b[k]? =some y) (hN:(k:Int)<N) (hN2:N<100) (h1:0<=c) (h2:c<1099511627776):
  jo (n+1) b N L c (k:Int)=if cont y then jo n b N L (c*64+ub y%64) ((k+1:Nat):Int) else some (.inr ((0,(0,())),())):=by
 have hy:=iG y;have w:=wS k;have e0:(Int.toNat (k:Int))=k:=rfl
 conv=>lhs;unfold jo
 simp only [ao hN,af (show (0:Int)<=k by omega),zac,e0,hk,zaa,dR,w];by_cases h3:ub y<128
 .rw [ao h3,if_neg (fun h=>by have:=h.1;omega)];rfl
 .rw [aC (show 128<=ub y by omega),zab]
  by_cases h4:191<ub y
  .rw [ao h4,if_neg (fun h=>by have:=h.2;omega)];rfl
  .rw [aC (show ub y<=191 by omega),if_pos ⟨by omega,by omega⟩]
   simp only [zaa,zab];rw [Tt (by omega) (by omega),aj (x:=c*64) (by omega) (by omega),aj (by omega) (by omega)]
theorem RM (n:Nat) (b:List UInt8) (N L c:Int):jo (n+1) b N L c N=some (.inl ((N,(L,(c,()))),())):=by
 simp only [jo,aC (show N<=N by omega),zab]
def rp:Option (Int×Nat)->Int×dg
 |some (c,k)=>(c,((k:Int),()))
 |none=>(0,(0,()))
theorem qB (n:Nat) (L c N:Int):
  (bif Go.Iv.aD c L then some (0,(0,())) else Option.bind (lW n c) fun y=>bif !y.1 then some (0,(0,())) else some (c,(N,())))=if L<=c/\Ig c=true then some (c,(N,())) else some ((0:Int),((0:Int),())):=by
 rw [DY];by_cases h:c<L
 .rw [ao h,if_neg (fun hh=>by omega)];rfl
 .rw [aC (by omega)]
  cases Ig c with
  |false=>rw [if_neg (fun hh=>by cases hh.2)];rfl
  |true=>rw [if_pos ⟨by omega,rfl⟩];rfl
theorem AX (n:Nat) (a:UInt8) (r:List UInt8) (hn:10<=n) (hr:r.length<10000000):qE n (a::r)=some (rp (pt (a::r))):=by
 obtain ⟨n,rfl⟩:∃ m,n=m+10:=⟨n - 10,by omega⟩;have ha:=iG a;have hp:=pt.eq_def (a::r);dsimp only at hp;rw [hp];unfold qE;simp only [List.getElem?_cons_zero,zaa,dR,len];by_cases h1:ub a<128
 .rw [ao h1,if_pos h1];rfl
 rw [aC (show 128<=ub a by omega),if_neg h1];simp only [zac,zab,zaa];by_cases h2:ub a<194
 .rw [eA h2,if_pos h2,eA (show ub a<224 by omega),eA (show ub a<240 by omega)];rfl
 rw [af (show 194<=ub a by omega),if_neg h2];simp only [zac,zab,zaa];by_cases h3:ub a<224
 .rw [ao h3,if_pos h3]
  simp only [zac,zab,zaa]
  match r,hr with
  | [],_=>rfl
  |b::s,hr=>
   have hb:=iG b;simp only [zad] at hr ⊢;rw [aC (show (2:Int)<=((s.length+1+1:Nat):Int) by omega),Tw (by omega) (by omega)];have s1:=xk (n+10) (a::b::s) 2 128 (ub a%32) 1 b rfl (by decide) (by decide) (by omega) (by omega);have s2:=RM (n+9) (a::b::s) 2 128 (ub a%32*64+ub b%64);simp only [zac,zab,zaa];refine (congrArg (fun z=>Option.bind z _) s1).trans ?_;by_cases hc:cont b
   .rw [if_pos hc,if_pos hc]
    refine (congrArg (fun z=>Option.bind z _) s2).trans ?_;simp only [zaa];rw [qB,if_pos ⟨by omega,decide_eq_true (by omega)⟩];rfl
   .rw [if_neg hc,if_neg hc];rfl
 rw [aC (show 224<=ub a by omega),if_neg h3];simp only [zac,zab,zaa];rw [af (show 224<=ub a by omega)];simp only [zac,zab,zaa];by_cases h4:ub a<240
 .rw [ao h4,if_pos h4]
  simp only [zac,zab,zaa]
  match r,hr with
  | [],_=>rfl
  | [b],_=>rfl
  |b::c::s,hr=>
   have hb:=iG b;have hc:=iG c;simp only [zad] at hr ⊢;rw [aC (show (3:Int)<=((s.length+1+1+1:Nat):Int) by omega),Tl (by omega) (by omega)];have s1:=xk (n+10) (a::b::c::s) 3 2048 (ub a%16) 1 b rfl (by decide) (by decide) (by omega) (by omega);have s2:=xk (n+9) (a::b::c::s) 3 2048 (ub a%16*64+ub b%64) 2 c rfl (by decide) (by decide) (by omega) (by omega);have s3:=RM (n+8) (a::b::c::s) 3 2048 (v3 a b c);simp only [zac,zab,zaa];refine (congrArg (fun z=>Option.bind z _) s1).trans ?_;by_cases hb2:cont b
   .rw [if_pos hb2]
    refine (congrArg (fun z=>Option.bind z _) s2).trans ?_;by_cases hc2:cont c
    .rw [if_pos hc2]
     refine (congrArg (fun z=>Option.bind z _) s3).trans ?_;simp only [zaa];rw [qB];by_cases hv:2048<=v3 a b c/\Ig (v3 a b c)=true
     .rw [if_pos hv,if_pos ⟨hb2,hc2,hv⟩];rfl
     .rw [if_neg hv,if_neg (fun h=>hv h.2.2)];rfl
    .rw [if_neg hc2,if_neg (fun h=>hc2 h.2.1)];rfl
   .rw [if_neg hb2,if_neg (fun h=>hb2 h.1)];rfl
 rw [aC (show 240<=ub a by omega),if_neg h4];simp only [zac,zab,zaa];rw [af (show 240<=ub a by omega)];simp only [zac,zab,zaa];by_cases h5:ub a<245
 .rw [ao h5,if_pos h5]
  simp only [zac,zab,zaa]
  match r,hr with
  | [],_=>rfl
  | [b],_=>rfl
  | [b,c],_=>rfl
  |b::c::d::s,hr=>
   have hb:=iG b;have hc:=iG c;have hd:=iG d;simp only [zad] at hr ⊢;rw [aC (show (4:Int)<=((s.length+1+1+1+1:Nat):Int) by omega),and7 (by omega) (by omega)];have s1:=xk (n+10) (a::b::c::d::s) 4 65536 (ub a%8) 1 b rfl (by decide) (by decide) (by omega) (by omega);have s2:=xk (n+9) (a::b::c::d::s) 4 65536 (ub a%8*64+ub b%64) 2 c rfl (by decide) (by decide) (by omega) (by omega);have s3:=xk (n+8) (a::b::c::d::s) 4 65536 ((ub a%8*64+ub b%64)*64+ub c%64) 3 d rfl (by decide) (by decide) (by omega) (by omega);have s4:=RM (n+7) (a::b::c::d::s) 4 65536 (v4 a b c d);simp only [zac,zab,zaa];refine (congrArg (fun z=>Option.bind z _) s1).trans ?_;by_cases hb2:cont b
   .rw [if_pos hb2]
    refine (congrArg (fun z=>Option.bind z _) s2).trans ?_;by_cases hc2:cont c
    .rw [if_pos hc2]
     refine (congrArg (fun z=>Option.bind z _) s3).trans ?_;by_cases hd2:cont d
     .rw [if_pos hd2]
      refine (congrArg (fun z=>Option.bind z _) s4).trans ?_;simp only [zaa];rw [qB];by_cases hv:65536<=v4 a b c d/\Ig (v4 a b c d)=true
      .rw [if_pos hv,if_pos ⟨hb2,hc2,hd2,hv⟩];rfl
      .rw [if_neg hv,if_neg (fun h=>hv h.2.2.2)];rfl
     .rw [if_neg hd2,if_neg (fun h=>hd2 h.2.2.1)];rfl
    .rw [if_neg hc2,if_neg (fun h=>hc2 h.2.1)];rfl
   .rw [if_neg hb2,if_neg (fun h=>hb2 h.1)];rfl
 rw [aC (show 245<=ub a by omega),if_neg h5];rfl
attribute [local irreducible] qE pt qP lW
def d8:Nat->List UInt8->Option be
 |_,[]=>some []
 |0,_::_=>none
 |n+1,a::r=>match pt (a::r) with
  |none=>none
  |some (c,k)=>(d8 n ((a::r).drop k)).map (c::·)
theorem sR (b:List UInt8) (hb:b.length<4194304):∀ (m:Nat) (r:List UInt8) (n i:Nat) (o:List Int),r.length<=m->b.drop i=r->i<=b.length->o.length+r.length<10000000->m+12<=n->
  tX n b o (i:Int)=match d8 m r with
   |some xs=>some (.inl ((o++xs,()),()))
   |none=>some (.inr (((),(false,())),())):=by
 intro m
 induction m with
 |zero=>
  intro r n i o hm hr hi ho hn;obtain ⟨n,rfl⟩:=pS n;have:r= []:=List.length_eq_zero_iff.1 (by omega);subst this;have hlen:b.length<=i:=ox hr;simp only [tX,len,aC (show (b.length:Int)<=i by omega),zab,d8,List.append_nil]
 |succ m ih=>
  intro r n i o hm hr hi ho hn;obtain ⟨n,rfl⟩:=pS n;have hlen:b.length=i+r.length:=by rw [←hr];simp;omega
  cases r with
  |nil=>
   simp at hlen;simp only [tX,len,aC (show (b.length:Int)<=i by omega),zab,d8,List.append_nil]
  |cons a r=>
   simp only [zad] at hlen hm ho;have e0:(Int.toNat (i:Int))=i:=rfl;have hd0:List.take (b.length - i) (List.drop i b)=a::r:=(TS b i).trans hr;simp only [tX,len,ao (show (i:Int)<b.length by omega),af (show (0:Int)<=i by omega),af (show (i:Int)<=b.length by omega),zai,zac,e0,hd0,AX (n+1) a r (by omega) (by omega),zaa,d8];cases hp:pt (a::r) with
   |none=>rfl
   |some q=>
    obtain ⟨c,k⟩:=q;obtain ⟨k1,k2,k3,k4,k5⟩:=yo hp;simp only [zad] at k3;have w:zao ((i:Int)+k)=((i+k:Nat):Int):=by rw [aj]<;>omega
    have z:((k:Int)==0)=false:=by rw [beq_eq_false_iff_ne];omega
    have hd:b.drop (i+k)=(a::r).drop k:=by rw [←zak,hr]
    simp only [rp,z,zab,zad,zah,aV (show (o.length+(0+1))*9<=1099511627776 by omega),zac,w];rw [ih ((a::r).drop k) n (i+k) (o++ [c]) (by simp;omega) hd (by omega) (by simp;omega) (by omega)];cases d8 m ((a::r).drop k) with
    |none=>rfl
    |some xs=>simp only [Option.map_some,List.append_assoc,List.cons_append,List.nil_append]
theorem BQ (n:Nat) (b:List UInt8) (hb:b.length<4194304) (hn:b.length+12<=n):qP n b=some (match d8 b.length b with
  |some xs=>(xs,(true,()))
  |none=>([],(false,()))):=by
 unfold qP;rw [show (0:Int)=((0:Nat):Int) from rfl,sR b hb b.length b n 0 [] (by omega) rfl (by omega) (by simp;omega) hn];cases d8 b.length b<;>rfl
end Go.Proofs.YteknbnkjelmfaaaGreatDoor
namespace Go.Proofs.YteknbnkjelmfaaaGreatDoor
open Go Go.Iv Go.Gv
def rF (c:Int):Bool:=decide ((48<=c/\c<=57)\/(97<=c/\c<=102)\/(65<=c/\c<=70))
def nv (c:Int):Bool:=decide ((48<=c/\c<=57)\/(97<=c/\c<=122)\/(65<=c/\c<=90)\/c=45)
def sg:List UInt8:= [35,59,47,63,58,64,38,61,43,36,44,95,46,33,126,42,39,40,41,91,93]
def oz (l:List UInt8) (c:Int):Bool:=l.any fun x=>ub x==c
theorem UO (a b c:Int):(bif Go.Iv.ak a c then some (Go.Iv.ak c b) else some Bool.false)=some (decide (a<=c/\c<=b)):=by
 rw [dn,dn];by_cases h1:a<=c<;>by_cases h2:c<=b<;>simp [h1,h2]
theorem iI (n:Nat) (c:Int):∃ v,hex n c=some (v,())/\Go.Iv.ak 0 v=rF c:=by
 unfold hex rF;simp only [UO,zaa];by_cases h1:48<=c/\c<=57
 .rw [decide_eq_true h1]
  refine ⟨_,rfl,?_⟩;rw [aj (by omega) (by omega),af (by omega),decide_eq_true (.inl h1)]
 rw [decide_eq_false h1];by_cases h2:97<=c/\c<=102
 .rw [decide_eq_true h2]
  refine ⟨_,rfl,?_⟩;rw [aj (x:=c - 97) (by omega) (by omega),aj (by omega) (by omega),af (by omega),decide_eq_true (.inr (.inl h2))]
 rw [decide_eq_false h2];by_cases h3:65<=c/\c<=70
 .rw [decide_eq_true h3]
  refine ⟨_,rfl,?_⟩;rw [aj (x:=c - 65) (by omega) (by omega),aj (by omega) (by omega),af (by omega),decide_eq_true (.inr (.inr h3))]
 rw [decide_eq_false h3];refine ⟨_,rfl,?_⟩;rw [eA (by omega),decide_eq_false (by omega)]
theorem mG (n:Nat) (c:Int):∃ v,IM n c=some (v,())/\Go.Iv.ak 0 v=rF c:=iI n c
theorem JQ (n:Nat) (c:Int):word n c=some (nv c,()):=by
 unfold word nv;simp only [UO,zaa]
 by_cases h1:48<=c/\c<=57<;>by_cases h2:97<=c/\c<=122<;>by_cases h3:65<=c/\c<=90<;>by_cases h4:c=45<;>
  first
  |(exfalso;omega)
  |simp [h1,h2,h3,h4]
theorem Fu (n:Nat) (c:Int):G3 n c=some (nv c,()):=by
 unfold G3 nv;simp only [dn]
 by_cases h1:48<=c<;>by_cases h2:c<=57<;>by_cases h3:97<=c<;>by_cases h4:c<=122<;>by_cases h5:65<=c<;>by_cases h6:c<=90<;>by_cases h7:c=45<;>
  first
  |(exfalso;omega)
  |simp [h1,h2,h3,h4,h5,h6,h7]
theorem EW (s:List UInt8) (c:Int) (hs:s.length<1000000):∀ (r:List UInt8) (i n:Nat),s.drop i=r->r.length+1<=n->i<=s.length->xV n s c (i:Int)=if oz r c then some (.inr ((true,()),())) else some (.inl ((),())):=by
 intro r
 induction r with
 |nil=>
  intro i n hr hn hi;obtain ⟨n,rfl⟩:=pS n;have hlen:s.length<=i:=ox hr;simp only [xV,len,aC (show (s.length:Int)<=i by omega),zab];rfl
 |cons x r ih=>
  intro i n hr hn hi;obtain ⟨n,rfl⟩:=pS n;have hlen:s.length=i+(r.length+1):=tC hr;have hx:s[i]? =some x:=sv hr;have hr2:s.drop (i+1)=r:=sy hr;have w:=wS i;have e0:(Int.toNat (i:Int))=i:=rfl;simp only [xV,len,ao (show (i:Int)<s.length by omega),af (show (0:Int)<=i by omega),zac,e0,hx,zaa,dR,w];cases hb:(ub x==c) with
  |true=>simp [oz,hb]
  |false=>
   simp only [zab];rw [ih (i+1) n hr2 (by simp at hn;omega) (by omega)];simp [oz,hb]
theorem CP (n:Nat) (s:List UInt8) (c:Int) (hs:s.length<1000000) (hn:s.length<=n):mc n s c=some (oz s c,()):=by
 unfold mc;rw [show (0:Int)=((0:Nat):Int) from rfl,EW s c hs s 0 (n+1) rfl (by omega) (by omega)];cases oz s c<;>rfl
theorem Ke (c:Int) (q:List Int):∀ (r:List UInt8) (i n:Nat),sg.drop i=r->r.length+1<=n->i<=21->mn n (c::q) sg 21 (i:Int)=if oz r c then some (.inr ((1,()),())) else some (.inl ((),())):=by
 intro r
 induction r with
 |nil=>
  intro i n hr hn hi;obtain ⟨n,rfl⟩:=pS n;have hlen:sg.length<=i:=ox hr;have:sg.length=21:=rfl;simp only [mn,aC (show (21:Int)<=i by omega),zab];rfl
 |cons x r ih=>
  intro i n hr hn hi;obtain ⟨n,rfl⟩:=pS n;have hlen:21=i+(r.length+1):=by
   have:=congrArg List.length hr;have h21:sg.length=21:=rfl;simp only [List.length_drop,zad,h21] at this;omega
  have hx:sg[i]? =some x:=sv hr;have hr2:sg.drop (i+1)=r:=sy hr;have w:=wS i;have e0:(Int.toNat (i:Int))=i:=rfl;simp only [mn,ao (show (i:Int)<21 by omega),af (show (0:Int)<=i by omega),zac,e0,hx,zaa,dR,w,List.getElem?_cons_zero];have hc:(c==ub x)=(ub x==c):=by rw [Bool.eq_iff_iff,beq_iff_eq,beq_iff_eq];exact eq_comm
  rw [hc];cases hb:(ub x==c) with
  |true=>simp [oz,hb]
  |false=>
   simp only [zab];rw [ih (i+1) n hr2 (by simp at hn;omega) (by omega)];simp [oz,hb]
def dM:List Int->Nat
 | []=>0
 |c::r=>if c=37 then (match r with
   |a::b::_=>bif rF a &&rF b then 3 else 0
   |_=>0) else bif nv c then 1 else bif oz sg c then 1 else 0
theorem Cp:∀ l:List Int,dM l<=l.length:=by
 intro l;cases l with
 |nil=>exact zal _
 |cons c r=>
  simp only [dM];by_cases hc:c=37
  .rw [if_pos hc]
   match r with
   | []=>simp
   | [a]=>simp
   |a::b::r=>cases h1:rF a<;>cases h2:rF b<;>simp [h1,h2]
  .rw [if_neg hc]
   cases h1:nv c<;>cases h2:oz sg c<;>simp
theorem xS (n:Nat) (l:List Int) (hn:30<=n) (hl:l.length<1000000000):sign n l=some (((dM l:Nat):Int),()):=by
 unfold sign;cases l with
 |nil=>rfl
 |cons c r=>
  have h0:((len (c::r))==(0:Int))=false:=by
   rw [beq_eq_false_iff_ne];simp only [len,zad];omega
  simp only [h0,zab,List.getElem?_cons_zero,zaa,dM];cases hc:(c==(37:Int)) with
  |true=>
   rw [if_pos (eq_of_beq hc)];simp only [zac,len]
   match r,hl with
   | [],_=>rfl
   | [a],_=>rfl
   |a::b::r,hl=>
    simp only [zad] at hl ⊢;obtain ⟨v1,e1,f1⟩:=iI n a;obtain ⟨v2,e2,f2⟩:=iI n b;rw [ao (by omega)];simp only [zac,List.getElem?_cons_succ,List.getElem?_cons_zero,zaa,e1,e2,f1,f2];cases rF a<;>cases rF b<;>rfl
  |false=>
   rw [if_neg (beq_eq_false_iff_ne.1 hc)];simp only [zab,JQ,zaa];cases nv c with
   |true=>rfl
   |false=>
    simp only [zab];have:=Ke c r sg 0 (n+2) rfl (by have:sg.length=21:=rfl;omega) (by omega);refine (congrArg (fun z=>Option.bind z _) this).trans ?_;cases oz sg c<;>rfl
theorem HX (n:Nat) (l:List Int) (i:Nat) (hn:30<=n) (hl:l.length<1000000000) (hi:i<=l.length):Mp n l (i:Int)=some (((dM (l.drop i):Nat):Int),()):=by
 unfold Mp;cases hr:l.drop i with
 |nil=>
  have hlen:l.length<=i:=ox hr;simp only [len,af (show (l.length:Int)<=i by omega),zac];rfl
 |cons c r=>
  have hlen:l.length=i+(r.length+1):=tC hr;have hx:l[i]? =some c:=sv hr;have e0:(Int.toNat (i:Int))=i:=rfl;have w1:=wS i;have w2:zao ((i:Int)+2)=((i+2:Nat):Int):=by rw [aj]<;>omega
  have e1:(Int.toNat ((i+1:Nat):Int))=i+1:=rfl;have e2:(Int.toNat ((i+2:Nat):Int))=i+2:=rfl;have ha:mc n ([35,59,47,63,58,64,38,61,43,36,44,95,46,33,126,42,39,40,41,91,93]:List UInt8) c=some (oz sg c,()):=CP n sg c (by decide) (by have:sg.length=21:=rfl;omega);simp only [len,eA (show (i:Int)<l.length by omega),zab,af (show (0:Int)<=i by omega),zac,e0,hx,zaa,Fu,ha,w1,w2,e1,e2,dM];cases hc:(c==(37:Int)) with
  |true=>
   have:c=37:=eq_of_beq hc;subst this;have z1:nv 37=false:=by decide
   have z2:oz sg 37=false:=by decide
   simp only [z1,z2,zab,zac,if_true]
   match r,hr,hlen with
   | [],hr,hlen=>simp only [zah] at hlen;rw [aC (by omega)];rfl
   | [a],hr,hlen=>simp only [zad,zah] at hlen;rw [aC (by omega)];rfl
   |a::b::r,hr,hlen=>
    simp only [zad] at hlen;have q1:l[i+1]? =some a:=by have:=dh hr 1;simpa using this
    have q2:l[i+2]? =some b:=by have:=dh hr 2;simpa using this
    obtain ⟨v1,e1,f1⟩:=mG (n+1) a;obtain ⟨v2,e2,f2⟩:=mG (n+1) b;rw [ao (by omega),af (show (0:Int)<=((i+1:Nat):Int) by omega),af (show (0:Int)<=((i+2:Nat):Int) by omega)];simp only [zac,q1,q2,zaa,e1,e2,f1,f2];cases rF a<;>cases rF b<;>rfl
  |false=>
   rw [if_neg (beq_eq_false_iff_ne.1 hc)];simp only [zab];cases nv c<;>cases oz sg c<;>rfl
def Om:Nat->List Int->Bool
 |_,[]=>true
 |0,_::_=>false
 |n+1,c::r=>bif Nat.beq (dM (c::r)) 0 then false else Om n ((c::r).drop (dM (c::r)))
attribute [local irreducible] dM sign Mp
theorem SN (l:List Int) (hl:l.length<100000000):∀ (m:Nat) (r:List Int) (i n:Nat),l.drop i=r->r.length<=m->i<=l.length->m+40<=n->uF n l (i:Int)=if Om m r then some (.inl ((),())) else some (.inr ((false,()),())):=by
 intro m
 induction m with
 |zero=>
  intro r i n hr hm hi hn;obtain ⟨n,rfl⟩:=pS n;have:r= []:=List.length_eq_zero_iff.1 (by omega);subst this;have hlen:l.length<=i:=ox hr;simp only [uF,len,aC (show (l.length:Int)<=i by omega),zab];rfl
 |succ m ih=>
  intro r i n hr hm hi hn;obtain ⟨n,rfl⟩:=pS n;cases r with
  |nil=>
   have hlen:l.length<=i:=ox hr;simp only [uF,len,aC (show (l.length:Int)<=i by omega),zab];rfl
  |cons c r=>
   have hlen:l.length=i+(r.length+1):=tC hr;have hs:=Cp (c::r);simp only [zad] at hs hm;simp only [uF,len,ao (show (i:Int)<l.length by omega),zac,HX (n+1) l i (by omega) (by omega) (by omega),hr,zaa,Om];rcases Bool.eq_false_or_eq_true (Nat.beq (dM (c::r)) 0) with hz |hz
   .have:=Nat.eq_of_beq_eq_true hz
    simp only [this];rfl
   .have hne:dM (c::r)≠0:=fun h=>by rw [h] at hz;cases hz
    have z:(((dM (c::r):Nat):Int)==0)=false:=by rw [beq_eq_false_iff_ne];omega
    have w:zao ((i:Int)+((dM (c::r):Nat):Int))=((i+dM (c::r):Nat):Int):=by rw [aj]<;>omega
    simp only [z,hz,zab,w];exact ih _ _ n (by rw [←zak,hr]) (by simp;omega) (by omega) (by omega)
theorem RA (l:List Int) (hl:l.length<100000000):∀ (m:Nat) (r:List Int) (i n:Nat),l.drop i=r->r.length<=m->i<=l.length->m+40<=n->∃ y,qu n (i:Int) l (i:Int) l=some y/\(y.2.2.2.1.1==len l)=Om m r:=by
 intro m
 induction m with
 |zero=>
  intro r i n hr hm hi hn;obtain ⟨n,rfl⟩:=pS n;have:r= []:=List.length_eq_zero_iff.1 (by omega);subst this;have hlen:l.length<=i:=ox hr;have e0:(Int.toNat (i:Int))=i:=rfl;have hs:dM []=0:=by unfold dM;rfl
  have hd0:List.take (l.length - i) (List.drop i l)= []:=(TS l i).trans hr;simp only [qu,len,af (show (0:Int)<=i by omega),af (show (i:Int)<=l.length by omega),zai,zac,e0,hd0,xS (n+1) [] (by omega) (by simp),zaa,hs];refine ⟨_,rfl,?_⟩
  show ((i:Int)==(l.length:Int))=true
  rw [beq_iff_eq];omega
 |succ m ih=>
  intro r i n hr hm hi hn;obtain ⟨n,rfl⟩:=pS n;have e0:(Int.toNat (i:Int))=i:=rfl;have hrl:r.length<=l.length:=by rw [←hr];simp
  have hs:=Cp r;have hd0:List.take (l.length - i) (List.drop i l)=r:=(TS l i).trans hr;simp only [qu,len,af (show (0:Int)<=i by omega),af (show (i:Int)<=l.length by omega),zai,zac,e0,hd0,xS (n+1) r (by omega) (by omega),zaa];cases r with
  |nil=>
   have hlen:l.length<=i:=ox hr;have hs:dM []=0:=by unfold dM;rfl
   rw [hs];refine ⟨_,rfl,?_⟩
   show ((i:Int)==(l.length:Int))=true
   rw [beq_iff_eq];omega
  |cons c r=>
   have hlen:l.length=i+(r.length+1):=tC hr;simp only [zad] at hs hm;simp only [Om];cases hz:Nat.beq (dM (c::r)) 0 with
   |true=>
    have:=Nat.eq_of_beq_eq_true hz;rw [this];refine ⟨_,rfl,?_⟩
    show ((i:Int)==(l.length:Int))=false
    rw [beq_eq_false_iff_ne];omega
   |false=>
    have hne:dM (c::r)≠0:=fun h=>by rw [h] at hz;cases hz
    have z:(((dM (c::r):Nat):Int)==0)=false:=by rw [beq_eq_false_iff_ne];omega
    have w:zao ((i:Int)+((dM (c::r):Nat):Int))=((i+dM (c::r):Nat):Int):=by rw [aj]<;>omega
    have hx:l[i]? =some c:=sv hr;simp only [z,zab,w,hx,zaa];exact ih _ _ n (by rw [←zak,hr]) (by simp;omega) (by omega) (by omega)
theorem Ru (tag:List UInt8) (ht:tag.length<10000000):∀ (r:List UInt8) (i n:Nat) (o:List Int),tag.drop i=r->r.length+1<=n->i<=tag.length->o.length+r.length<10000000->xJ n o tag (len tag) (i:Int)=some ((o++r.map ub,()),()):=by
 intro r
 induction r with
 |nil=>
  intro i n o hr hn hi ho;obtain ⟨n,rfl⟩:=pS n;have hlen:tag.length<=i:=ox hr;simp only [xJ,len,aC (show (tag.length:Int)<=i by omega),zab,List.map_nil,List.append_nil]
 |cons x r ih=>
  intro i n o hr hn hi ho;obtain ⟨n,rfl⟩:=pS n;have hlen:tag.length=i+(r.length+1):=tC hr;have hx:tag[i]? =some x:=sv hr;have hr2:tag.drop (i+1)=r:=sy hr;have w:=wS i;have e0:(Int.toNat (i:Int))=i:=rfl;simp only [zad] at hn ho;simp only [xJ,len,ao (show (i:Int)<tag.length by omega),af (show (0:Int)<=i by omega),zac,e0,hx,zaa,dR,w,zad,zah,aV (show (o.length+(0+1))*9<=1099511627776 by omega)];have:=ih (i+1) n (o++ [ub x]) hr2 (by omega) (by omega) (by simp;omega);simp only [len] at this;rw [this];simp
def kM (tag:List UInt8):Bool:= !tag.isEmpty &&Om tag.length (tag.map ub)
theorem Fx (n:Nat) (tag:List UInt8) (ht:tag.length<1000000) (hn:tag.length+60<=n):valid n tag=some (kM tag,()):=by
 unfold valid;rw [show (0:Int)=((0:Nat):Int) from rfl,Ru tag (by omega) tag 0 (n+5) [] rfl (by omega) (by omega) (by simp;omega)];simp only [zaa,List.nil_append];cases tag with
 |nil=>rfl
 |cons a r=>
  obtain ⟨y,h1,h3⟩:=RA ((a::r).map ub) (by simp at ht ⊢;omega) (a::r).length ((a::r).map ub) 0 n rfl (by simp) (by omega) (by omega);have:Go.Iv.aD ((0:Nat):Int) (len ((a::r).map ub))=true:=ao (by simp only [len,List.length_map,zad];omega);rw [this,zac,h1];simp only [zaa];rw [h3];rfl
theorem vo (n:Nat) (b:List UInt8) (hb:b.length<4194304) (hn:b.length+12<=n):C2 n b=some (match d8 b.length b with
  |some xs=>(xs,(true,()))
  |none=>([],(false,()))):=by
 unfold C2;rw [BQ n b hb hn];cases d8 b.length b<;>rfl
theorem Ng:∀ (m:Nat) (b:List UInt8) (xs:List Int),d8 m b=some xs->xs.length<=b.length:=by
 intro m
 induction m with
 |zero=>intro b xs h;cases b with
  |nil=>cases h;simp
  |cons=>cases h
 |succ m ih=>
  intro b xs h;cases b with
  |nil=>cases h;simp
  |cons a r=>
   unfold d8 at h;split at h
   .cases h
   .rename_i c k hp
    obtain ⟨k1,k2,k3,k4,k5⟩:=yo hp;cases hd:d8 m ((a::r).drop k) with
    |none=>rw [hd] at h;cases h
    |some ys=>
     rw [hd] at h;cases h;have:=ih _ _ hd;simp only [List.length_drop,zad] at this ⊢;simp only [zad] at k3;omega
def eG (tag:List UInt8):Bool:=match d8 tag.length tag with
 |some xs=> !xs.isEmpty &&Om xs.length xs
 |none=>false
theorem BA (n:Nat) (tag:List UInt8) (ht:tag.length<1000000) (hn:tag.length+60<=n):uO n tag=some (eG tag,()):=by
 unfold uO eG;rw [vo n tag (by omega) (by omega)];simp only [zaa];cases hd:d8 tag.length tag with
 |none=>rfl
 |some xs=>
  have hl:=Ng _ _ _ hd;simp only [zag,zab,zaa];cases xs with
  |nil=>rfl
  |cons c r=>
   have z:(len (c::r)==(0:Int))=false:=by rw [beq_eq_false_iff_ne];simp only [len,zad];omega
   rw [z,zab,show (0:Int)=((0:Nat):Int) from rfl,SN (c::r) (by omega) (c::r).length (c::r) 0 (n+1) rfl (zal _) (by omega) (by omega)];simp only [List.isEmpty_cons,Bool.not_false,Bool.true_and];cases Om (c::r).length (c::r)<;>rfl
end Go.Proofs.YteknbnkjelmfaaaGreatDoor
namespace Go.Proofs.YteknbnkjelmfaaaGreatDoor
open Go Go.Iv Go.Gv
theorem SM {c:Int} (h:oz sg c=true):0<=c/\c<128:=by
 unfold oz at h;rw [List.any_eq_true] at h;obtain ⟨x,hx,he⟩:=h;have e:=eq_of_beq he;have:∀ x∈sg,x.toNat<128:=by decide
 have:=this x hx;have:ub x=(x.toNat:Int):=rfl;omega
theorem MX:∀ (m:Nat) (l:List Int),Om m l=true->∀ c∈l,0<=c/\c<128:=by
 intro m
 induction m with
 |zero=>intro l h c hc;cases l with
  |nil=>cases hc
  |cons=>cases h
 |succ m ih=>
  intro l h c hc;cases l with
  |nil=>cases hc
  |cons x r=>
   unfold Om at h;simp only [dM] at h;by_cases h37:x=37
   .simp only [if_pos h37] at h
    match r,h,hc with
    | [],h,hc=>cases h
    | [a],h,hc=>cases h
    |a::b::r,h,hc=>
     cases h1:rF a with
     |false=>simp [h1] at h
     |true=>
      cases h2:rF b with
      |false=>simp [h1,h2] at h
      |true=>
       have h:=h;simp [h1,h2] at h;have q1:=of_decide_eq_true h1;have q2:=of_decide_eq_true h2;rcases List.mem_cons.1 hc with e |hc
       .omega
       rcases List.mem_cons.1 hc with e |hc
       .omega
       rcases List.mem_cons.1 hc with e |hc
       .omega
       exact ih r h.2 c hc
   .simp only [if_neg h37] at h
    cases hw:nv x with
    |true=>
     simp [hw] at h;have q:=of_decide_eq_true hw;rcases List.mem_cons.1 hc with e |hc
     .omega
     .exact ih r h.2 c hc
    |false=>
     cases ha:oz sg x with
     |false=>simp [hw,ha] at h
     |true=>
      simp [hw,ha] at h;have q:=SM ha;rcases List.mem_cons.1 hc with e |hc
      .omega
      .exact ih r h.2 c hc
theorem zt {a:UInt8} {r:List UInt8} {c:Int} {k:Nat} (h:pt (a::r)=some (c,k)) (hc:c<128\/k=1):ub a<128/\c=ub a/\k=1:=by
 have ha:=iG a;have hp:=pt.eq_def (a::r);dsimp only at hp;rw [hp] at h;split at h
 .rename_i q;cases h;exact ⟨q,rfl,rfl⟩
 split at h
 .cases h
 split at h
 .split at h
  .rename_i b s
   have:=iG b;split at h
   .cases h;unfold v2 at hc;omega
   .cases h
  .cases h
 split at h
 .split at h
  .split at h
   .rename_i hh;cases h;have:=hh.2.2.1;omega
   .cases h
  .cases h
 split at h
 .split at h
  .split at h
   .rename_i hh;cases h;have:=hh.2.2.2.1;omega
   .cases h
  .cases h
 .cases h
theorem Lh:∀ (m:Nat) (l:List UInt8),l.length<=m->(∀ x∈l,ub x<128)->d8 m l=some (l.map ub):=by
 intro m
 induction m with
 |zero=>intro l hl h;cases l with
  |nil=>rfl
  |cons=>simp at hl
 |succ m ih=>
  intro l hl h;cases l with
  |nil=>rfl
  |cons a r=>
   have hp:pt (a::r)=some (ub a,1):=if_pos (h a (List.mem_cons_self ..));unfold d8;rw [hp];simp only [List.drop_succ_cons,List.drop_zero];rw [ih r (by simp at hl;omega) (fun x hx=>h x (zan _ hx))];rfl
theorem RO:∀ (m:Nat) (l:List UInt8) (xs:List Int),d8 m l=some xs->(∀ c∈xs,c<128)->∀ x∈l,ub x<128:=by
 intro m
 induction m with
 |zero=>intro l xs h _ x hx;cases l with
  |nil=>cases hx
  |cons=>cases h
 |succ m ih=>
  intro l xs h hc x hx;cases l with
  |nil=>cases hx
  |cons a r=>
   unfold d8 at h;split at h
   .cases h
   .rename_i c k hp
    cases hd:d8 m ((a::r).drop k) with
    |none=>rw [hd] at h;cases h
    |some ys=>
     rw [hd] at h;cases h;obtain ⟨q1,q2,rfl⟩:=zt hp (.inl (hc c (List.mem_cons_self ..)));rcases List.mem_cons.1 hx with e |hx
     .rw [e];exact q1
     .exact ih r ys hd (fun c hc'=>hc c (zan _ hc')) x hx
theorem C6 (tag:List UInt8):kM tag=eG tag:=by
 by_cases h:∀ x∈tag,ub x<128
 .unfold kM eG
  rw [Lh tag.length tag (zal _) h];simp
 .have e1:kM tag=false:=by
   cases hv:kM tag with
   |false=>rfl
   |true=>
    unfold kM at hv;have:=MX _ _ (ae hv).2;exact absurd (fun x hx=>(this (ub x) (List.mem_map.2 ⟨x,hx,rfl⟩)).2) h
  have e2:eG tag=false:=by
   cases hv:eG tag with
   |false=>rfl
   |true=>
    unfold eG at hv;split at hv
    .rename_i xs hd
     have:=MX _ _ (ae hv).2;exact absurd (RO _ _ _ hd fun c hc=>(this c hc).2) h
    .cases hv
  rw [e1,e2]
def Q1:Option (Int×Nat)->Nat×Nat
 |some (c,k)=>(c.toNat,k)
 |none=>(65533,1)
set_option maxHeartbeats 4000000 in
theorem KH (a:UInt8) (r:List UInt8):Go.Lib.decodeL (a::r)=Q1 (pt (a::r)):=by
 rw [Go.Lib.decodeL_N];have ha:=a.toNat_lt;have u:∀ x:UInt8,ub x=(x.toNat:Int):=fun _=>rfl
 have fin:∀ {x y:Nat} {k:Nat},x=y->((x,k):Nat×Nat)=(y,k):=fun h=>by rw [h]
 match r with
 | []=>
  show Go.Lib.decodeN 1 a.toNat 0 0 0=_
  unfold Go.Lib.decodeN;by_cases h1:a.toNat<128
  .have e1:pt [a]=some (ub a,1):=if_pos (by rw [u];omega)
   rw [if_pos h1,e1];rfl
  .have e1:pt [a]=none:=by
    refine (if_neg (by rw [u];omega)).trans ?_
    repeat' split
    all_goals first |rfl |contradiction
   rw [if_neg h1,if_neg (by omega),if_neg (by omega),if_neg (by omega),e1];simp only [Q1]
 | [b]=>
  have hb:=b.toNat_lt
  show Go.Lib.decodeN 2 a.toNat b.toNat 0 0=_
  have hp:=pt.eq_def (a:: [b]);dsimp only at hp;rw [hp];clear hp;simp only [u,cont,v2,apply_ite Q1];unfold Go.Lib.decodeN
  repeat' split
  all_goals first
   |(exfalso;omega)
   |exact fin (by omega)
   |rfl
 | [b,c]=>
  have hb:=b.toNat_lt;have hc:=c.toNat_lt
  show Go.Lib.decodeN 3 a.toNat b.toNat c.toNat 0=_
  have hp:=pt.eq_def (a:: [b,c]);dsimp only at hp;rw [hp];clear hp;simp only [u,cont,v2,v3,Ig,decide_eq_true_eq,apply_ite Q1];unfold Go.Lib.decodeN
  repeat' split
  all_goals first
   |(exfalso;omega)
   |exact fin (by omega)
   |rfl
 |b::c::d::s=>
  have hb:=b.toNat_lt;have hc:=c.toNat_lt;have hd:=d.toNat_lt
  show Go.Lib.decodeN (s.length+4) a.toNat b.toNat c.toNat d.toNat=_
  have hp:=pt.eq_def (a::b::c::d::s);dsimp only at hp;rw [hp];clear hp;simp only [u,cont,v2,v3,v4,Ig,decide_eq_true_eq,apply_ite Q1];unfold Go.Lib.decodeN
  repeat' split
  all_goals first
   |(exfalso;omega)
   |exact fin (by omega)
   |rfl
theorem xm:∀ (m:Nat) (l:List UInt8),l.length<=m->Go.Lib.validD l=(d8 m l).isSome:=by
 intro m
 induction m with
 |zero=>intro l hl;cases l with
  |nil=>rfl
  |cons=>simp at hl
 |succ m ih=>
  intro l hl;cases l with
  |nil=>rfl
  |cons a r=>
   rw [Go.Lib.validD_step _ (by simp),KH a r];unfold d8;cases hp:pt (a::r) with
   |none=>rfl
   |some q=>
    obtain ⟨c,k⟩:=q;obtain ⟨k1,k2,k3,k4,k5⟩:=yo hp;have hq:¬ ((Q1 (some (c,k))).1=65533/\(Q1 (some (c,k))).2=1):=fun h=>by
     have h1:c.toNat=65533:=h.1;have h2:k=1:=h.2;obtain ⟨q1,q2,_⟩:=zt hp (.inr h2);omega
    rw [if_neg hq]
    show Go.Lib.validD ((a::r).drop k)=_
    simp only [zad] at k3 hl;rw [ih ((a::r).drop k) (by simp;omega)];dsimp only;cases d8 m ((a::r).drop k)<;>rfl
def uo (s:List UInt8):Bool:=decide (s.length<=262144) &&(d8 s.length s).isSome
theorem Bh (n:Nat) (s:List UInt8) (hs:s.length<4194304):uh n s=some (uo s,()):=by
 unfold uh uo;rw [dn];by_cases h:s.length<=262144
 .rw [decide_eq_true (show len s<=262144 by simp only [len];omega),decide_eq_true h,zac]
  have:Nat.ble (List.length s) 9223372036854775807=true:=by rw [Nat.ble_eq];omega
  rw [this,xm s.length s (zal _)];rfl
 .rw [decide_eq_false (show ¬ len s<=262144 by simp only [len];omega),decide_eq_false h];rfl
abbrev dy:=Int×ci
abbrev lO:=List dy×List Int
def Dn (N:Nat) (x:Int):Bool:=decide (0<=x/\x<(N:Int))
theorem Vu {α:Type} (N:Nat) (x:Int) (a b:α):(bif Go.Iv.aD x 0 then a else bif Go.Iv.ak (N:Int) x then a else b)=bif Dn N x then b else a:=by
 unfold Dn;by_cases h:x<0
 .rw [ao h,decide_eq_false (by omega)];rfl
 .rw [aC (by omega)]
  by_cases h2:(N:Int)<=x
  .rw [af h2,decide_eq_false (by omega)];rfl
  .rw [eA (by omega),decide_eq_true (by omega)];rfl
theorem Kw (l:List Int) (g1:List dy) (g2:List Int) (hl:l.length<1000000000):∀ (r:List Int) (i n:Nat),l.drop i=r->r.length+1<=n->i<=l.length->
  wP n l (len l) (i:Int) g1 g2=bif r.all (Dn g1.length) then some (.inl ((),((g1,(g2,())),()))) else some (.inr ((Bool.false,()),((g1,(g2,())),()))):=by
 intro r
 induction r with
 |nil=>
  intro i n hr hn hi;obtain ⟨n,rfl⟩:=pS n;have hlen:l.length<=i:=ox hr;simp only [wP,len,aC (show (l.length:Int)<=i by omega),zab];rfl
 |cons x r ih=>
  intro i n hr hn hi;obtain ⟨n,rfl⟩:=pS n;have hlen:l.length=i+(r.length+1):=tC hr;have hx:l[i]? =some x:=sv hr;have hr2:l.drop (i+1)=r:=sy hr;have w:=wS i;have e0:(Int.toNat (i:Int))=i:=rfl;simp only [wP,len,ao (show (i:Int)<l.length by omega),af (show (0:Int)<=i by omega),zac,e0,hx,zaa,w];rw [Vu];simp only [List.all_cons];cases Dn g1.length x with
  |false=>rfl
  |true=>
   simp only [zac,Bool.true_and];exact ih (i+1) n hr2 (by simp at hn;omega) (by omega)
theorem CM (n:Nat) (g1:List dy) (g2 l:List Int) (hl:l.length<1000000000) (hn:l.length+1<=n):SP n (g1,g2) l=some (l.all (Dn g1.length),()):=by
 unfold SP;rw [show (0:Int)=((0:Nat):Int) from rfl,Kw l g1 g2 hl l 0 (n+1) rfl (by omega) (by omega)];cases l.all (Dn g1.length)<;>rfl
def ss (x:dy):Bool:=
 bif x.1==(1:Int) then ((len x.2.2.2.1)==(0:Int)) &&uo x.2.2.1
 else bif x.1==(2:Int) then (x.2.2.1==([]:List UInt8)) && !x.2.2.2.2
 else bif x.1==(3:Int) then (x.2.2.1==([]:List UInt8)) &&(!x.2.2.2.2 &&((Int.tmod (len x.2.2.2.1) (2:Int))==(0:Int)))
 else Bool.false
def mV (x:dy):Bool:= !(Go.Iv.aD (1000:Int) (len x.2.1)) &&(!(x.2.1==([33]:List UInt8)) &&(kM x.2.1 &&ss x))
def NB (x:dy):Prop:=x.2.1.length<=9000/\x.2.2.1.length<=8100/\x.2.2.2.1.length<=400
attribute [local irreducible] valid uO uh kM uo
theorem I5 (n:Nat) (x:dy) (hx:NB x) (hn:10000<=n):node n x=some (mV x,()):=by
 obtain ⟨h1,h2,h3⟩:=hx;unfold node mV ss;rw [Fx n x.2.1 (by omega) (by omega),Bh (n+4) x.2.2.1 (by omega)];simp only [zaa];cases Go.Iv.aD (1000:Int) (len x.2.1) with
 |true=>rfl
 |false=>
 cases (x.2.1==([33]:List UInt8)) with
 |true=>rfl
 |false=>
 cases kM x.2.1 with
 |false=>rfl
 |true=>
 simp only [zab,zac,Bool.not_false,zag,Bool.true_and];cases (x.1==(1:Int)) with
 |true=>cases (len x.2.2.2.1==(0:Int))<;>rfl
 |false=>
 cases (x.1==(2:Int)) with
 |true=>cases (x.2.2.1==([]:List UInt8))<;>rfl
 |false=>
 cases (x.1==(3:Int)) with
 |true=>cases (x.2.2.1==([]:List UInt8))<;>cases x.2.2.2.2<;>rfl
 |false=>rfl
def nE:List dy->Nat
 | []=>0
 |x::r=>x.2.2.2.1.length+nE r
def iN (N:Nat) (x:dy):Bool:=mV x &&x.2.2.2.1.all (Dn N)
attribute [local irreducible] node mV SP
theorem Fk (g1:List dy) (g2:List Int) (hl:g1.length<1000) (hb:∀ x∈g1,NB x):∀ (r:List dy) (i n s:Nat),g1.drop i=r->r.length+10000<=n->i<=g1.length->s+nE r<=20000->
  yk n (s:Int) g1 (len g1) (i:Int) g1 g2=bif r.all (iN g1.length) then some (.inl ((),((g1,(g2,())),()))) else some (.inr ((Bool.false,()),((g1,(g2,())),()))):=by
 intro r
 induction r with
 |nil=>
  intro i n s hr hn hi hs;obtain ⟨n,rfl⟩:=pS n;have hlen:g1.length<=i:=ox hr;simp only [yk,len,aC (show (g1.length:Int)<=i by omega),zab];rfl
 |cons x r ih=>
  intro i n s hr hn hi hs;obtain ⟨n,rfl⟩:=pS n;have hlen:g1.length=i+(r.length+1):=tC hr;have hx:g1[i]? =some x:=sv hr;have hxb:NB x:=hb x (List.mem_of_getElem? hx);have hr2:g1.drop (i+1)=r:=sy hr;have w:=wS i;simp only [nE] at hs;simp only [zad] at hn;have w2:zao ((s:Int)+(x.2.2.2.1.length:Int))=((s+x.2.2.2.1.length:Nat):Int):=by rw [aj]<;>omega
  have e0:(Int.toNat (i:Int))=i:=rfl;have hk:=hxb.2.2;simp only [yk,len,ao (show (i:Int)<g1.length by omega),af (show (0:Int)<=i by omega),zac,e0,hx,zaa,w,w2,aC (show ((s+x.2.2.2.1.length:Nat):Int)<=20000 by omega),zab];rw [I5 (n+1) _ hxb (by omega),CM (n+6) g1 g2 x.2.2.2.1 (by omega) (by omega)];simp only [zaa,List.all_cons,iN];cases mV x with
  |false=>rfl
  |true=>
   cases x.2.2.2.1.all (Dn g1.length) with
   |false=>rfl
   |true=>
    simp only [zag,zab,Bool.true_and];exact ih (i+1) n _ hr2 (by omega) (by omega) (by omega)
def ky (g:lO):Bool:=g.2.all (Dn g.1.length) &&g.1.all (iN g.1.length)
structure GB (g:lO):Prop where
 n:g.1.length<=60
 r:g.2.length<=20
 b:∀ x∈g.1,NB x
 k:nE g.1<=400
theorem OK (n:Nat) (g:lO) (hg:GB g) (hn:20000<=n):right n g=some (ky g,()):=by
 have h1:=hg.n;have h2:=hg.r;have h3:=hg.k;obtain ⟨g1,g2⟩:=g;simp only at h1 h2 h3;unfold right ky;simp only [len,aC (show (g1.length:Int)<=20000 by omega),aC (show (g2.length:Int)<=20000 by omega),zab];rw [CM (n+5) g1 g2 g2 (by omega) (by omega)];simp only [zaa];have:=Fk g1 g2 (by omega) hg.b g1 0 n 0 rfl (by omega) (by omega) (by omega);simp only [len,Int.natCast_zero] at this;rw [this];cases g2.all (Dn g1.length)<;>cases g1.all (iN g1.length)<;>rfl
def wt (x:dy):Nat:=x.2.2.2.1.length+x.2.2.1.length / 20+x.2.1.length / 20
def ud:List dy->Nat
 | []=>0
 |x::r=>wt x+ud r
def SB (x:dy):Prop:=x.2.1.length<=281474976710656/\x.2.2.1.length<=281474976710656/\x.2.2.2.1.length<=281474976710656
theorem SZ {x:dy} (h:SB x):wt x<=900000000000000:=by
 obtain ⟨h1,h2,h3⟩:=h;unfold wt;omega
theorem Vv (k:Nat):Int.tdiv (k:Int) 20=((k / 20:Nat):Int):=by
 rw [Int.tdiv_eq_ediv_of_nonneg (by omega)];omega
theorem LA (g1:List dy) (g2:List Int) (hb:∀ x∈g1,SB x) (hlen:g1.length<1000000000000000000):∀ (m:Nat) (r:List dy) (i n s:Nat),g1.drop i=r->i<=100->100 - i=m->m+2<=n->i<=g1.length->s<=900000000000000*i->
  FN n (s:Int) (i:Int) g1 g2=some (((),(((s+ud (r.take m):Nat):Int),())),((g1,(g2,())),())):=by
 intro m
 induction m with
 |zero=>
  intro r i n s hr hi hm hn hi2 hs;obtain ⟨n,rfl⟩:=pS n;have:i=100:=by omega
  subst this;simp only [FN,aC (show (100:Int)<=((100:Nat):Int) by omega),List.take_zero,ud,Nat.add_zero];cases Go.Iv.aD ((100:Nat):Int) (len g1)<;>rfl
 |succ m ih=>
  intro r i n s hr hi hm hn hi2 hs;obtain ⟨n,rfl⟩:=pS n;cases r with
  |nil=>
   have hl:g1.length<=i:=ox hr;simp only [FN,len,aC (show (g1.length:Int)<=i by omega),zab,zaa,List.take_nil,ud,Nat.add_zero]
  |cons x r=>
   have hlen:g1.length=i+(r.length+1):=tC hr;have hx:g1[i]? =some x:=sv hr;have hxb:SB x:=hb x (List.mem_of_getElem? hx);have hr2:g1.drop (i+1)=r:=sy hr;have w:=wS i;have e0:(Int.toNat (i:Int))=i:=rfl;have hw:=SZ hxb;obtain ⟨q1,q2,q3⟩:=hxb;have a1:zao ((s:Int)+(x.2.2.2.1.length:Int))=((s+x.2.2.2.1.length:Nat):Int):=by rw [aj]<;>omega
   have a2:zao ((x.2.2.1.length / 20:Nat):Int)=((x.2.2.1.length / 20:Nat):Int):=by rw [aj]<;>omega
   have a3:zao ((x.2.1.length / 20:Nat):Int)=((x.2.1.length / 20:Nat):Int):=by rw [aj]<;>omega
   have a4:zao (((s+x.2.2.2.1.length:Nat):Int)+((x.2.2.1.length / 20:Nat):Int))=((s+x.2.2.2.1.length+x.2.2.1.length / 20:Nat):Int):=by rw [aj]<;>omega
   have a5:zao (((s+x.2.2.2.1.length+x.2.2.1.length / 20:Nat):Int)+((x.2.1.length / 20:Nat):Int))=((s+wt x:Nat):Int):=by unfold wt;rw [aj]<;>omega
   simp only [FN,len,ao (show (i:Int)<g1.length by omega),ao (show (i:Int)<100 by omega),af (show (0:Int)<=i by omega),zac,e0,hx,zaa,w,Vv,a1,a2,a3,a4,a5];rw [ih r (i+1) n (s+wt x) hr2 (by omega) (by omega) (by omega) (by omega) (by omega)];simp only [List.take_succ_cons,ud,Nat.add_assoc]
def Pp (g:lO):Bool:=decide (60<g.1.length\/20<g.2.length\/400<ud (g.1.take 100))
theorem Kx (n:Nat) (g:lO) (hb:∀ x∈g.1,SB x) (h1:g.1.length<1000000000000000000) (hn:200<=n):T7 n g=some (Pp g,()):=by
 obtain ⟨g1,g2⟩:=g;simp only at hb h1;unfold T7 Pp;have:=LA g1 g2 hb h1 100 g1 0 (n+1) 0 rfl (by omega) rfl (by omega) (by omega) (by omega);simp only [Int.natCast_zero,Nat.zero_add] at this;rw [this];simp only [zaa,len];by_cases q1:60<g1.length
 .rw [ao (by omega),decide_eq_true (.inl q1)];rfl
 rw [aC (by omega)];by_cases q2:20<g2.length
 .rw [ao (by omega),decide_eq_true (.inr (.inl q2))];rfl
 rw [aC (by omega)];by_cases q3:400<ud (g1.take 100)
 .rw [ao (by omega),decide_eq_true (.inr (.inr q3))];rfl
 .rw [aC (by omega),decide_eq_false (by omega)];rfl
theorem M3:∀ {l:List dy} {x:dy},x∈l->wt x<=ud l:=by
 intro l
 induction l with
 |nil=>intro x h;cases h
 |cons y r ih=>
  intro x h;simp only [ud];rcases List.mem_cons.1 h with e |h
  .rw [e];omega
  .have:=ih h;omega
theorem O4:∀ l:List dy,nE l<=ud l:=by
 intro l
 induction l with
 |nil=>exact zal _
 |cons y r ih=>simp only [ud,nE,wt];omega
theorem GB.of {g:lO} (h:Pp g=false):GB g:=by
 have h:=of_decide_eq_false h;have h1:g.1.length<=60:=by omega
 have ht:g.1.take 100=g.1:=List.take_of_length_le (by omega);rw [ht] at h;refine ⟨h1,by omega,fun x hx=>?_,?_⟩
 .have:=M3 hx
  unfold wt at this;exact ⟨by omega,by omega,by omega⟩
 .have:=O4 g.1;omega
end Go.Proofs.YteknbnkjelmfaaaGreatDoor
namespace Go.Proofs.YteknbnkjelmfaaaGreatDoor
open Go Go.Iv Go.Gv
theorem bS {α Z:Type} {a:Option α} {v:α} {f:α->Option Z} {r:Option Z} (h:a=some v) (h2:f v=r):Option.bind a f=r:=by subst h;exact h2
theorem cT {α:Type} {b:Bool} {x y r:α} (h:b=true) (h2:x=r):cond b x y=r:=by subst h;exact h2
theorem cF {α:Type} {b:Bool} {x y r:α} (h:b=false) (h2:y=r):cond b x y=r:=by subst h;exact h2
theorem Mf (N:Nat) (k:Int) (a b:List UInt8) (l:List Int) (p:Bool) (hl:l.length<1000000000):∀ (r:List Int) (i n:Nat),l.drop i=r->r.length+1<=n->i<=l.length->(∀ y∈r,Dn N y=true)->
  xi n (N:Int) (i:Int) k a b l p=some (.inl (((),()),((k,(a,(b,(l,(p,()))))),()))):=by
 intro r
 induction r with
 |nil=>
  intro i n hr hn hi _;obtain ⟨n,rfl⟩:=pS n;have hlen:l.length<=i:=ox hr;unfold xi;exact cF (aC (by unfold len;omega)) rfl
 |cons x r ih=>
  intro i n hr hn hi hb;obtain ⟨n,rfl⟩:=pS n;have hlen:l.length=i+(r.length+1):=tC hr;have hx:l[i]? =some x:=sv hr;have hr2:l.drop (i+1)=r:=sy hr;have w:=wS i;have q:=of_decide_eq_true (hb x (List.mem_cons_self ..));unfold xi;refine cT (ao (show (i:Int)<len l by unfold len;omega)) (cT (af (by omega)) (bS hx (cF (aC q.1) (cT (af (by omega)) (bS hx (cF (eA q.2) ?_))))))
  grind
theorem ES (n:Nat) (s:List UInt8) (hs:s.length<=9000) (hn:10000<=n) (h:uo s=true):tI n s=some (true,()):=by
 unfold uo at h;rw [zae] at h;obtain ⟨xs,hx⟩:=Option.isSome_iff_exists.1 h.2;unfold tI;rw [vo n s (by omega) (by omega),hx];simp only [zaa,zac];rw [show ak (len s) 262144=true from af (by unfold len;omega)]
theorem NR (n N:Nat) (x:dy) (hx:NB x) (hn:10000<=n) (hg:iN N x=true):Gr n x (N:Int)=some (true,()):=by
 obtain ⟨h1,h2,h3⟩:=hx;unfold iN mV at hg;simp only [zae,Bool.not_eq_true'] at hg;obtain ⟨⟨g1,g2,g3,g4⟩,g5⟩:=hg;have hv:eG x.2.1=true:=by rw [←C6];exact g3
 have hk:=Mf N x.1 x.2.1 x.2.2.1 x.2.2.2.1 x.2.2.2.2 (by omega) x.2.2.2.1 0 (n+5) rfl (by omega) (by omega) (fun y hy=>List.all_eq_true.1 g5 y hy);unfold Gr;refine bS (BA n x.2.1 (by omega) (by omega)) (cF (by rw [hv];rfl) (cF g2 (cF g1 (bS hk ?_))));unfold ss at g4;cases k1:(x.1==(1:Int)) with
 |true=>
  rw [k1,zac,zae] at g4;refine cT rfl (cT g4.1 (bS (ES n _ (by omega) hn g4.2) rfl))
 |false=>
  rw [k1,zab] at g4;refine cF rfl ?_;cases k2:(x.1==(2:Int)) with
  |true=>
   grind
  |false=>
   grind
theorem JF (g1:List dy) (g2:List Int) (hl:g1.length<1000) (hb:∀ x∈g1,NB x) (hg:∀ x∈g1,iN g1.length x=true):∀ (r:List dy) (i n s:Nat),g1.drop i=r->r.length+10000<=n->i<=g1.length->s+nE r<=20000->
  wW n (g1.length:Int) (s:Int) (i:Int) g1 g2=some (.inl (((),((g1.length:Int),())),((g1,(g2,())),()))):=by
 intro r
 induction r with
 |nil=>
  intro i n s hr hn hi hs;obtain ⟨n,rfl⟩:=pS n;have hlen:g1.length<=i:=ox hr;unfold wW;exact cF (aC (by omega)) rfl
 |cons x r ih=>
  intro i n s hr hn hi hs;obtain ⟨n,rfl⟩:=pS n;have hlen:g1.length=i+(r.length+1):=tC hr;have hx:g1[i]? =some x:=sv hr;have hr2:g1.drop (i+1)=r:=sy hr;have w:=wS i;simp only [nE] at hs;simp only [zad] at hn;have w2:zao ((s:Int)+len x.2.2.2.1)=((s+x.2.2.2.1.length:Nat):Int):=by unfold len;rw [aj]<;>omega
  have hm:=List.mem_of_getElem? hx;unfold wW;refine cT (ao (by omega)) (cT (af (by omega)) (bS hx ?_));rw [w2,w];refine cF (aC (by omega)) (cT (af (by omega)) (bS hx (bS (NR (n+1) g1.length x (hb x hm) (by omega) (hg x hm)) (cF rfl ?_))));exact ih (i+1) n _ hr2 (by omega) (by omega) (by omega)
theorem JM (N:Nat) (g1:List dy) (l:List Int) (hl:l.length<1000000000):∀ (r:List Int) (i n:Nat),l.drop i=r->r.length+1<=n->i<=l.length->(∀ y∈r,Dn N y=true)->
  qT n (N:Int) (i:Int) g1 l=some (.inl ((),((g1,(l,())),()))):=by
 intro r
 induction r with
 |nil=>
  intro i n hr hn hi _;obtain ⟨n,rfl⟩:=pS n;have hlen:l.length<=i:=ox hr;unfold qT;exact cF (aC (by unfold len;omega)) rfl
 |cons x r ih=>
  intro i n hr hn hi hb;obtain ⟨n,rfl⟩:=pS n;have hlen:l.length=i+(r.length+1):=tC hr;have hx:l[i]? =some x:=sv hr;have hr2:l.drop (i+1)=r:=sy hr;have w:=wS i;have q:=of_decide_eq_true (hb x (List.mem_cons_self ..));unfold qT;refine cT (ao (show (i:Int)<len l by unfold len;omega)) (cT (af (by omega)) (bS hx (cF (aC q.1) (cT (af (by omega)) (bS hx (cF (eA q.2) ?_))))))
  grind
theorem mE (n:Nat) (g1:List dy) (g2:List Int) (hl:g1.length<=60) (h2:g2.length<=20) (hk:nE g1<=20000) (hb:∀ x∈g1,NB x) (hg:∀ x∈g1,iN g1.length x=true) (hr:∀ y∈g2,Dn g1.length y=true) (hn:20000<=n):fh n (g1,g2)=some (true,()):=by
 have q1:=JF g1 g2 (by omega) hb hg g1 0 n 0 rfl (by omega) (by omega) (by omega);have q2:=JM g1.length g1 g2 (by omega) g2 0 (n+6) rfl (by omega) (by omega) hr;unfold fh;refine cF (aC (by unfold len;grind)) (cF (aC (by unfold len;grind)) (bS q1 ?_));exact bS q2 rfl
abbrev KI:Sh:= .int .i64
theorem jM {Z:Type} (a:Int) (b:Z) (r:List (Int×Z)) (z:Int):ll KI ((a,b)::r) z=if z=a then some b else ll KI r z:=by
 show (bif Sh.CX KI z a then some b else ll KI r z)=_
 by_cases h:z=a
 .rw [if_pos h,show Sh.CX KI z a=true from by subst h;exact beq_self_eq_true z];rfl
 .rw [if_neg h,show Sh.CX KI z a=false from beq_false_of_ne h];rfl
theorem xT {Z:Type} (a:Int) (b:Z) (r:List (Int×Z)) (x:Int) (y:Z):de KI ((a,b)::r) x y=if x=a then (x,y)::r else (a,b)::de KI r x y:=by
 show (bif Sh.CX KI x a then (x,y)::r else (a,b)::de KI r x y)=_
 by_cases h:x=a
 .rw [if_pos h,show Sh.CX KI x a=true from by subst h;exact beq_self_eq_true x];rfl
 .rw [if_neg h,show Sh.CX KI x a=false from beq_false_of_ne h];rfl
theorem JJ {Z:Type} (x:Int) (y:Z) (z:Int):∀ l:List (Int×Z),ll KI (de KI l x y) z=if z=x then some y else ll KI l z:=by
 intro l
 induction l with
 |nil=>exact jM x y [] z
 |cons p r ih=>
  obtain ⟨a,b⟩:=p;rw [xT,jM];by_cases hxa:x=a
  .rw [if_pos hxa,jM]
   grind
  .rw [if_neg hxa,jM,ih]
   grind
theorem cH {Z:Type} (l:List (Int×Z)) (x:Int) (y:Z) (z:Int) (d:Z):aW KI (de KI l x y) z d=if z=x then y else aW KI l z d:=by
 unfold aW;rw [JJ];split<;>rfl
theorem qS {Z:Type} (z:Int) (d:Z):aW KI ([]:List (Int×Z)) z d=d:=rfl
end Go.Proofs.YteknbnkjelmfaaaGreatDoor
namespace Go.Proofs.YteknbnkjelmfaaaGreatDoor
open Go
inductive mw (K:Int->List Int):List Int->List Int->List Int->Prop
 |nil {o:List Int}:mw K o [] o
 |old {o o' ks:List Int} {k:Int}:k∈o->mw K o ks o'->mw K o (k::ks) o'
 |new {o o1 o' ks:List Int} {k:Int}:k∉o->mw K (o++ [k]) (K k) o1->mw K o1 ks o'->mw K o (k::ks) o'
variable {K:Int->List Int}
theorem mw.pre {o ks o':List Int} (h:mw K o ks o'):∃ r,o'=o++r:=by
 induction h with
 |nil=>simp_all
 |old _ _ ih=>exact ih
 |@new o o1 o' ks k _ _ _ ih1 ih2=>
  grind
theorem mw.sub {o ks o':List Int} (h:mw K o ks o') {x:Int} (hx:x∈o):x∈o':=by
 obtain ⟨r,rfl⟩:=h.pre
 grind
theorem mw.nodup {o ks o':List Int} (h:mw K o ks o'):o.Nodup->o'.Nodup:=by
 induction h with
 |nil=>exact id
 |old _ _ ih=>exact ih
 |@new o o1 o' ks k hk _ _ ih1 ih2=>
  grind
theorem mw.met {o ks o':List Int} (h:mw K o ks o'):∀ k∈ks,k∈o':=by
 induction h with
 |nil=>grind
 |old h1 h2 ih=>
  intro k hk;rcases List.mem_cons.1 hk with rfl |hk
  .exact h2.sub h1
  .exact ih k hk
 |new h1 h2 h3 _ ih2=>
  intro k hk;rcases List.mem_cons.1 hk with rfl |hk
  .exact h3.sub (h2.sub (by simp))
  .exact ih2 k hk
theorem mw.closed {o ks o':List Int} (h:mw K o ks o'):∀ p∈o',p∈o\/∀ c∈K p,c∈o':=by
 induction h with
 |nil=>grind
 |old _ _ ih=>exact ih
 |@new o o1 o' ks k h1 h2 h3 ih1 ih2=>
  intro p hp;rcases ih2 p hp with hp |hp
  .rcases ih1 p hp with hq |hq
   .rcases List.mem_append.1 hq with hq |hq
    .exact .inl hq
    .simp at hq
     subst hq;exact .inr fun c hc=>h3.sub (h2.met c hc)
   .exact .inr fun c hc=>h3.sub (hq c hc)
  .exact .inr hp
theorem mw.UL {P:Int->Prop} (hP:∀ p,P p->∀ c∈K p,P c) {o ks o':List Int} (h:mw K o ks o'):(∀ p∈o,P p)->(∀ k∈ks,P k)->∀ p∈o',P p:=by
 induction h with
 |nil=>grind
 |old _ _ ih=>grind
 |@new o o1 o' ks k _ _ _ ih1 ih2=>
  grind
def fx (n:Nat):List Int:=(List.range n).map Int.ofNat
theorem Jp (n:Nat):fx (n+1)=fx n++ [(n:Int)]:=by
 unfold fx;rw [List.range_succ,List.map_append];rfl
theorem uQ {n:Nat} {x:Int}:x∈fx n↔0<=x/\x<n:=by
 unfold fx;rw [List.mem_map];constructor
 .grind
 .rintro ⟨h0,h1⟩
  exact ⟨x.toNat,List.mem_range.2 (by omega),by grind⟩
def dN (f:List Int) (k:Int):Int:=((f.idxOf k:Nat):Int)
theorem QF {o r:List Int} {k:Int} (h:k∈o):dN (o++r) k=dN o k:=by
 unfold dN
 grind
theorem zG {o:List Int} {k:Int} (h:k∈o):0<=dN o k/\dN o k<o.length:=by
 unfold dN
 grind
theorem mu {o r:List Int} {k:Int} (h:k∉o):dN (o++k::r) k=o.length:=by
 unfold dN
 grind
def KC (K:Int->List Int) (f:List Int) (j:Int):List Int:=match f[j.toNat]? with
 |some k=>(K k).map (dN f)
 |none=> []
theorem mw.place {o ks o':List Int} (h:mw K o ks o'):∀ (r f:List Int),f=o'++r->mw (KC K f) (fx o.length) (ks.map (dN f)) (fx o'.length):=by
 induction h with
 |nil=>intro r f _;exact .nil
 |@old o o' ks k h1 h2 ih=>
  intro r f hf;refine .old ?_ (ih r f hf);obtain ⟨q,rfl⟩:=h2.pre;rw [hf,List.append_assoc,QF h1];exact uQ.2 (zG h1)
 |@new o o1 o' ks k h1 h2 h3 ih1 ih2=>
  intro r f hf;obtain ⟨q1,hq1⟩:=h2.pre;obtain ⟨q2,hq2⟩:=h3.pre;have hf1:f=o1++(q2++r):=by rw [hf,hq2,List.append_assoc]
  have hf0:f=o++k::(q1++(q2++r)):=by rw [hf1,hq1];simp
  have hp:dN f k=o.length:=by rw [hf0];exact mu h1
  have hk:KC K f (dN f k)=(K k).map (dN f):=by
   unfold KC;rw [hp];have:f[((o.length:Nat):Int).toNat]? =some k:=by
    rw [hf0,show ((o.length:Nat):Int).toNat=o.length from rfl,List.getElem?_append_right (zal _)];simp
   rw [this]
  have i1:=ih1 _ f hf1;have i2:=ih2 r f hf;have e:fx (o++ [k]).length=fx o.length++ [dN f k]:=by
   rw [hp,zaf,List.length_singleton,Jp]
  rw [e] at i1;rw [←hk] at i1;exact .new (fun hm=>by have:=(uQ.1 hm).2;omega) i1 i2
inductive lu (U:Int->Prop) (K:Int->List Int):List Int->List Int->List Int->Prop
 |nil {o:List Int}:lu U K o [] o
 |old {o o' ks:List Int} {k:Int}:k∈o->U k->lu U K o ks o'->lu U K o (k::ks) o'
 |new {o o1 o' ks:List Int} {k:Int}:k∉o->lu U K (o++ [k]) (K k) o1->lu U K o1 ks o'->lu U K o (k::ks) o'
variable {U:Int->Prop} {K:Int->List Int}
theorem lu.UF {o ks o':List Int} (h:lu U K o ks o'):mw K o ks o':=by
 induction h with
 |nil=>exact .nil
 |old h1 _ _ ih=>exact .old h1 ih
 |new h1 _ _ ih1 ih2=>exact .new h1 ih1 ih2
theorem lu.cons {o ks o':List Int} {k:Int} (h:lu U K o (k::ks) o'):∃ o1,lu U K o [k] o1/\lu U K o1 ks o':=by
 cases h with
 |old h1 h2 h3=>exact ⟨_,.old h1 h2 .nil,h3⟩
 |new h1 h2 h3=>exact ⟨_,.new h1 h2 .nil,h3⟩
theorem lu.one {o o':List Int} {k:Int} (h:lu U K o [k] o'):(k∈o/\U k/\o'=o)\/(k∉o/\lu U K (o++ [k]) (K k) o'):=by
 cases h with
 |old h1 h2 h3=>cases h3;grind
 |new h1 h2 h3=>cases h3;grind
theorem mw.TD {o ks o':List Int} (h:mw K o ks o'):∀ r,o'=o++r->∀ x∈r,x∈ks\/x∈r.flatMap K:=by
 induction h with
 |nil=>simp_all
 |old _ _ ih=>
  grind
 |@new o o1 o' ks k h1 h2 h3 ih1 ih2=>
  intro r hr x hx;obtain ⟨r1,e1⟩:=h2.pre;obtain ⟨r2,e2⟩:=h3.pre;have er:r=k::(r1++r2):=by
   have:o++r=o++(k::(r1++r2)):=by rw [←hr,e2,e1];simp
   exact List.append_cancel_left this
  subst er;rcases List.mem_cons.1 hx with rfl |hx
  .grind
  .rcases List.mem_append.1 hx with hx |hx
   .rcases ih1 r1 e1 x hx with h |h
    .exact .inr (List.mem_flatMap.2 ⟨k,List.mem_cons_self ..,h⟩)
    .obtain ⟨p,hp,hq⟩:=List.mem_flatMap.1 h
     exact .inr (List.mem_flatMap.2 ⟨p,zan _ (List.mem_append_left _ hp),hq⟩)
   grind
theorem tM (k x:Int) (ks:List Int):(k::ks).count x=ks.count x+if x=k then 1 else 0:=by
 grind
theorem mw.Ro {o ks o':List Int} (h:mw K o ks o'):∀ r,o'=o++r->∀ c0:Int->Nat,(∀ x∈o,1<=c0 x)->∀ U:Int->Prop,(∀ x,2<=c0 x+ks.count x+(r.flatMap K).count x->U x)->lu U K o ks o':=by
 induction h with
 |nil=>intro _ _ _ _ _ _;exact .nil
 |@old o o' ks k h1 h2 ih=>
  intro r hr c0 hc U hU;refine .old h1 (hU k ?_) (ih r hr (fun x=>c0 x+if x=k then 1 else 0) (fun x hx=>by have:=hc x hx;omega) U fun x hx=>hU x ?_)
  .have:=hc k h1
   rw [tM,if_pos rfl];omega
  grind
 |@new o o1 o' ks k h1 h2 h3 ih1 ih2=>
  intro r hr c0 hc U hU;obtain ⟨r1,e1⟩:=h2.pre;obtain ⟨r2,e2⟩:=h3.pre;have er:r=k::(r1++r2):=by
   have:o++r=o++(k::(r1++r2)):=by rw [←hr,e2,e1];simp
   exact List.append_cancel_left this
  have tot:∀ x,(r.flatMap K).count x=(K k).count x+(r1.flatMap K).count x+(r2.flatMap K).count x:=fun x=>by
   rw [er];simp [List.flatMap_cons,List.flatMap_append,List.count_append];omega
  have hk:∀ x∈o++ [k],1<=c0 x+if x=k then 1 else 0:=fun x hx=>by
   rcases List.mem_append.1 hx with hx |hx
   .have:=hc x hx;omega
   .rw [if_pos (List.mem_singleton.1 hx)];omega
  refine .new h1 (ih1 r1 e1 (fun x=>c0 x+if x=k then 1 else 0) hk U fun x hx=>hU x ?_)
   (ih2 r2 e2 (fun x=>c0 x+(if x=k then 1 else 0)+(K k).count x+(r1.flatMap K).count x) (fun x hx=>?_) U fun x hx=>hU x ?_)
  .rw [tM,tot];omega
  .rw [e1] at hx
   rcases List.mem_append.1 hx with hx |hx
   .have:=hk x hx;omega
   .rcases h2.TD r1 e1 x hx with h |h
    .have:=List.count_pos_iff.2 h;omega
    .have:=List.count_pos_iff.2 h;omega
  grind
def left (o:List Int):Nat->Nat
 |0=>0
 |j+1=>left o j+if (j:Int)∈o then 0 else 1
theorem Dv (o:List Int) (k:Int):∀ N:Nat,(N:Int)<=k->left (o++ [k]) N=left o N:=by
 intro N
 induction N with
 |zero=>intro _;rfl
 |succ N ih=>
  intro h
  show left (o++ [k]) N+(if (N:Int)∈o++ [k] then 0 else 1)=left o N+(if (N:Int)∈o then 0 else 1)
  grind
theorem yc (o:List Int) (k:Int) (hk:k∉o) (h0:0<=k):∀ N:Nat,k<(N:Int)->left (o++ [k]) N+1=left o N:=by
 intro N
 induction N with
 |zero=>intro h;omega
 |succ N ih=>
  intro h
  show left (o++ [k]) N+(if (N:Int)∈o++ [k] then 0 else 1)+1=left o N+(if (N:Int)∈o then 0 else 1)
  by_cases hc:k=(N:Int)
  .subst hc
   rw [Dv o _ N (Int.le_refl _),if_pos (List.mem_append_right _ (List.mem_singleton.2 rfl)),if_neg hk]
  grind
theorem ML (o r:List Int):∀ N:Nat,left (o++r) N<=left o N:=by
 intro N
 induction N with
 |zero=>exact zal _
 |succ N ih=>
  show left (o++r) N+(if (N:Int)∈o++r then 0 else 1)<=left o N+(if (N:Int)∈o then 0 else 1)
  grind
theorem mw.Tp (N:Nat) (hK:∀ p:Int,0<=p/\p<(N:Int)->∀ c∈K p,0<=c/\c<(N:Int)):∀ (m:Nat) (ks o:List Int),left o N<=m->(∀ k∈ks,0<=k/\k<(N:Int))->∃ o',mw K o ks o':=by
 intro m
 induction m with
 |zero=>
  intro ks
  induction ks with
  |nil=>intro o _ _;exact ⟨o,.nil⟩
  |cons k ks ih=>
   intro o hl hk;have hk0:=hk k (List.mem_cons_self ..);by_cases h:k∈o
   .obtain ⟨o',h2⟩:=ih o hl fun x hx=>hk x (zan _ hx)
    exact ⟨o',.old h h2⟩
   .have:=yc o k h hk0.1 N hk0.2;omega
 |succ m ihm=>
  intro ks
  induction ks with
  |nil=>intro o _ _;exact ⟨o,.nil⟩
  |cons k ks ih=>
   intro o hl hk;have hk0:=hk k (List.mem_cons_self ..);by_cases h:k∈o
   .obtain ⟨o',h2⟩:=ih o hl fun x hx=>hk x (zan _ hx)
    exact ⟨o',.old h h2⟩
   .have hm:=yc o k h hk0.1 N hk0.2
    obtain ⟨o1,h1⟩:=ihm (K k) (o++ [k]) (by omega) (hK k hk0);obtain ⟨r,hr⟩:=h1.pre;have hp:=ML (o++ [k]) r N;rw [←hr] at hp;obtain ⟨o',h2⟩:=ih o1 (by omega) fun x hx=>hk x (zan _ hx)
    exact ⟨o',.new h h1 h2⟩
theorem Iq {o P:List Int} (h:o.Nodup) (hs:∀ x∈o,x∈P) (x:Int):(o.flatMap K).count x<=(P.flatMap K).count x:=by
 induction o generalizing P with
 |nil=>simp
 |cons k o ih=>
  rw [List.nodup_cons] at h;have hk:k∈P:=hs k (List.mem_cons_self ..);obtain ⟨a,b,rfl⟩:=List.append_of_mem hk;have:=ih (P:=a++b) h.2 fun y hy=>by
   rcases List.mem_append.1 (hs y (zan _ hy)) with h2 |h2
   .exact List.mem_append_left _ h2
   .rcases List.mem_cons.1 h2 with rfl |h2
    .exact absurd hy h.1
    .exact List.mem_append_right _ h2
  grind
end Go.Proofs.YteknbnkjelmfaaaGreatDoor
namespace Go.Proofs.YteknbnkjelmfaaaGreatDoor
open Go Go.Iv Go.Gv
theorem Vo {α:Type} (b c:Bool):(bif b then some (true,()) else some (c,()):Option bv)=some (b ||c,()):=by cases b<;>rfl
theorem UR (b c:Bool):(bif b then some true else some c:Option Bool)=some (b ||c):=by cases b<;>rfl
theorem vm (a b:Int):(a==b)=decide (a=b):=by rw [Bool.eq_iff_iff];simp
def Oh (c:Int):Bool:=decide (c=9\/c=10\/c=13\/c=133\/(32<=c/\c<=126)\/(160<=c/\c<=55295)\/(57344<=c/\c<=65533)\/(65536<=c/\c<=1114111))
theorem n7 (n:Nat) (c:Int):print n c=some (Oh c,()):=by
 unfold print Oh;simp only [UO,zaa,Vo (α:=Unit),vm,Bool.decide_or]
def mL (c:Int):Bool:=decide (c=32\/c=9)
theorem dZ (n:Nat) (c:Int):blank n c=some (mL c,()):=by
 unfold blank mL;simp only [UR,zaa,vm,Bool.decide_or]
theorem rL (s:List UInt8) (c:Int) (N:Int) (hN:N=s.length) (hs:s.length<1000000):∀ (r:List UInt8) (i n:Nat),s.drop i=r->r.length+1<=n->i<=s.length->nV n c s N (i:Int)=if oz r c then some (.inr ((true,()),())) else some (.inl ((),())):=by
 intro r
 induction r with
 |nil=>
  intro i n hr hn hi;obtain ⟨n,rfl⟩:∃ k,n=k+1:=⟨n - 1,by simp at hn;omega⟩;have hlen:s.length<=i:=ox hr;simp only [nV,hN,aC (show (s.length:Int)<=i by omega),zab];rfl
 |cons x r ih=>
  intro i n hr hn hi;obtain ⟨n,rfl⟩:∃ k,n=k+1:=⟨n - 1,by simp at hn;omega⟩;simp only [zad] at hn;have hlen:s.length=i+r.length+1:=tC hr;have e0:(Int.toNat (i:Int))=i:=rfl;have hx:s[i]? =some x:=sv hr;have w:=wS i;have hd:s.drop (i+1)=r:=sy hr;simp only [nV,hN,ao (show (i:Int)<s.length by omega),af (show (0:Int)<=i by omega),zac,e0,hx,zaa,dR,w];have:=ih (i+1) n hd (by omega) (by omega);rw [hN] at this;rw [this];rw [show oz (x::r) c=((ub x==c) ||oz r c) from rfl];cases hb:(ub x==c) with
  |true=>rfl
  |false=>rfl
def Oe:List UInt8:= [44,91,93,123,125]
def TC:List UInt8:= [45,63,58,44,91,93,123,125,35,38,42,33,124,62,39,34,37,64,96]
theorem vK (n:Nat) (c:Int) (hn:10<=n):BK n c=some (oz Oe c,()):=by
 unfold BK;rw [show ([44,91,93,123,125]:List UInt8)=Oe from rfl];have:=rL Oe c 5 rfl (by decide) Oe 0 (n+1) rfl (by show 5+1<=n+1;omega) (by decide);refine (congrArg (fun z=>Option.bind z _) this).trans ?_;cases oz Oe c<;>rfl
theorem Ff (n:Nat) (c:Int) (hn:30<=n):GQ n c=some (oz TC c,()):=by
 unfold GQ;have:=rL TC c 19 rfl (by decide) TC 0 (n+1) rfl (by show 19+1<=n+1;omega) (by decide);refine (congrArg (fun z=>Option.bind z _) this).trans ?_;cases oz TC c<;>rfl
def TX (c:Int) (flow:Bool):Bool:=Oh c &&(!mL c &&(decide (c≠10) &&(decide (c≠13) &&(decide (c≠65279) &&(!(flow &&oz Oe c))))))
def Sj (flow:Bool):List Int->Bool
 | []=>false
 |c::_=>TX c flow
theorem S8 (a b:Int):(a !=b)=decide (a≠b):=by rw [Bool.eq_iff_iff];simp
theorem qV (n:Nat) (l:List Int) (i:Nat) (flow:Bool) (hn:10<=n) (hl:l.length<1000000000) (hi:i<=l.length):safe n l (i:Int) flow=some (Sj flow (l.drop i),()):=by
 unfold safe;by_cases h:i<l.length
 .have e3:l[i]? =some l[i]:=zam h
  have hdr:l.drop i=l[i]::l.drop (i+1):=List.drop_eq_getElem_cons h;rw [hdr];generalize l[i]=c at e3;have e0:(Int.toNat (i:Int))=i:=rfl;simp only [ao (show (i:Int)<len l by unfold len;omega),af (show (0:Int)<=i by omega),zac,e0,e3,zaa,n7,dZ,vK n c hn,Sj,TX,S8];cases Oh c<;>cases mL c<;>simp only [zac,zab,zag,Bool.not_false,Bool.true_and,Bool.false_and]
  by_cases h1:c=10<;>by_cases h2:c=13<;>by_cases h3:c=65279<;>simp only [h1,h2,h3,ne_eq,not_true,not_false_eq_true,decide_true,decide_false,zac,zab,Bool.true_and,Bool.false_and]<;>cases flow<;>simp
 .have:l.drop i= []:=List.drop_eq_nil_of_le (by omega)
  rw [this];simp only [aC (show len l<=(i:Int) by unfold len;omega),zab,Sj]
def SY (flow:Bool):List Int->Bool
 | []=>false
 |c::r=>TX c flow &&(if c=45\/c=63\/c=58 then Sj flow r else !oz TC c)
theorem Cw (n:Nat) (l:List Int) (flow:Bool) (hn:30<=n) (hl:l.length<1000000000):Aa n l flow=some (SY flow l,()):=by
 unfold Aa;have h0:=qV n l 0 flow (by omega) hl (by omega);rw [List.drop_zero] at h0;rw [show ((0:Nat):Int)=0 from rfl] at h0;rw [h0];cases l with
 |nil=>rfl
 |cons c r=>
  have h1:=qV n (c::r) 1 flow (by omega) hl (by simp);rw [show ((1:Nat):Int)=1 from rfl] at h1;simp only [h1,Sj,zaa,SY,List.getElem?_cons_zero,List.drop_succ_cons,List.drop_zero,Ff (n+2) c (by omega),vm];cases TX c flow with
  |false=>rfl
  |true=>
   simp only [zag,zab,Bool.true_and];by_cases a1:c=45
   .subst a1;rfl
   by_cases a2:c=63
   .subst a2;rfl
   by_cases a3:c=58
   .subst a3;rfl
   simp only [a1,a2,a3,decide_false,zab,false_or,if_false]
def xC (flow:Bool):Bool->List Int->Nat
 |_,[]=>0
 |pb,c::r=>if (c=58/\Sj flow r=false)\/(c=35/\pb=true)\/(flow=true/\oz Oe c=true) then 0 else 1+xC flow (mL c) r
theorem Sg (flow:Bool):∀ (l:List Int) (pb:Bool),xC flow pb l<=l.length:=by
 intro l
 induction l with
 |nil=>intro pb;exact zal _
 |cons c r ih=>
  intro pb;simp only [xC,zad];split
  .omega
  .have:=ih (mL c);omega
def Rx (l:List Int) (i:Nat):Bool:=decide (1<=i) &&(match l[i - 1]? with |some c=>mL c |none=>false)
theorem NM {l:List Int} {i:Nat} {c:Int} (h:l[i]? =some c):Rx l (i+1)=mL c:=by
 unfold Rx;simp [h]
theorem Fc:oz Oe 58=false:=by decide
theorem vd:oz Oe 35=false:=by decide
theorem JP (l:List Int) (flow:Bool) (hl:l.length<1000000000) (z:Int):∀ (r:List Int) (i n:Nat),l.drop i=r->r.length+30<=n->i<=l.length->
  (∃ y,bF n l (len l) (i:Int) l flow z flow=some y/\(match y with | .inl _=>len l | .inr y=>y.2.2.2.1.1)=((i+xC flow (Rx l i) r:Nat):Int)):=by
 intro r
 induction r with
 |nil=>
  intro i n hr hn hi;obtain ⟨n,rfl⟩:∃ k,n=k+1:=⟨n - 1,by simp at hn;omega⟩;have hlen:l.length<=i:=ox hr;refine ⟨_,by simp only [bF,aC (show len l<=(i:Int) by unfold len;omega),zab];rfl,?_⟩
  show len l=_
  unfold len;simp only [xC];omega
 |cons c r ih=>
  intro i n hr hn hi;obtain ⟨n,rfl⟩:∃ k,n=k+1:=⟨n - 1,by simp at hn;omega⟩;simp only [zad] at hn;have hlen:l.length=i+r.length+1:=tC hr;have e0:(Int.toNat (i:Int))=i:=rfl;have hx:l[i]? =some c:=sv hr;have w:=wS i;have w2:1<=i->zao ((i:Int) - 1)=((i - 1:Nat):Int):=fun h=>by rw [aj]<;>omega
  have hd:l.drop (i+1)=r:=sy hr;obtain ⟨y,hy,hv⟩:=ih (i+1) n hd (by omega) (by omega);have hs:=qV (n+1) l (i+1) flow (by omega) hl (by omega);rw [hd] at hs;rw [NM hx] at hv;have fin:∀ k:Nat,i+1+k=i+(1+k):=fun k=>by omega
  have ez:i=0\/1<=i:=by omega
  have hpv:1<=i->∃ d,l[i - 1]? =some d/\Rx l i=mL d:=fun h=>by
   have h2:i - 1<l.length:=by omega
   refine ⟨l[i - 1],zam h2,?_⟩;unfold Rx;simp [h,zam h2]
  by_cases a1:c=58
  .subst a1
   have q1:((58:Int)==58)=true:=rfl;have q2:((58:Int)==35)=false:=rfl;cases hsf:Sj flow r with
   |true=>
    refine ⟨y,?_,?_⟩
    .simp only [bF,ao (show (i:Int)<len l by unfold len;omega),af (show (0:Int)<=i by omega),zac,e0,hx,zaa,w,hs,hsf,q1,hy]
    .rw [hv,fin]
     simp only [xC,hsf,Fc];simp
   |false=>
    refine ⟨_,by simp only [bF,ao (show (i:Int)<len l by unfold len;omega),af (show (0:Int)<=i by omega),zac,zab,e0,hx,zaa,w,hs,hsf,q1,q2];rfl,?_⟩;simp [xC,hsf]
  have q1:(c==58)=false:=by simp [a1]
  by_cases a2:c=35
  .subst a2
   have q2:((35:Int)==35)=true:=rfl;have q3:((35:Int)==58)=false:=rfl;rcases ez with rfl |h1
   .refine ⟨y,?_,?_⟩
    .have e5:(((0:Nat):Int)==0)=true:=rfl
     simp only [bF,ao (show ((0:Nat):Int)<len l by unfold len;omega),af (show (0:Int)<=((0:Nat):Int) by omega),zac,zab,e0,hx,zaa,w,q2,q3,e5,hy]
    .rw [hv,fin]
     have:Rx l 0=false:=rfl;simp only [xC,this,vd];simp
   .obtain ⟨d,hd1,hd2⟩:=hpv h1
    have e5:((i:Int)==0)=false:=by simp;omega
    have e6:(Int.toNat ((i - 1:Nat):Int))=i - 1:=rfl;cases hb:mL d with
    |false=>
     refine ⟨y,?_,?_⟩
     .simp only [bF,ao (show (i:Int)<len l by unfold len;omega),af (show (0:Int)<=i by omega),af (show (0:Int)<=((i - 1:Nat):Int) by omega),zac,zab,e0,e6,hx,zaa,w,w2 h1,q2,q3,e5,hd1,dZ,hb,Bool.not_false,hy]
     .rw [hv,fin]
      simp only [xC,hd2,hb,vd];simp
    |true=>
     refine ⟨_,by simp only [bF,ao (show (i:Int)<len l by unfold len;omega),af (show (0:Int)<=i by omega),af (show (0:Int)<=((i - 1:Nat):Int) by omega),zac,zab,e0,e6,hx,zaa,w,w2 h1,q2,q3,e5,hd1,dZ,hb,zag];rfl,?_⟩;simp [xC,hd2,hb]
  have q2:(c==35)=false:=by simp [a2]
  have hf:=vK (n+4) c (by omega);cases flow with
  |false=>
   refine ⟨y,?_,?_⟩
   .simp only [bF,ao (show (i:Int)<len l by unfold len;omega),af (show (0:Int)<=i by omega),zac,zab,e0,hx,zaa,w,q1,q2,hy]
   .rw [hv,fin]
    simp [xC,a1,a2]
  |true=>
   cases ha:oz Oe c with
   |false=>
    refine ⟨y,?_,?_⟩
    .simp only [bF,ao (show (i:Int)<len l by unfold len;omega),af (show (0:Int)<=i by omega),zac,zab,e0,hx,zaa,w,q1,q2,hf,ha,hy]
    .rw [hv,fin]
     simp [xC,a1,a2,ha]
   |true=>
    refine ⟨_,by simp only [bF,ao (show (i:Int)<len l by unfold len;omega),af (show (0:Int)<=i by omega),zac,zab,e0,hx,zaa,w,q1,q2,hf,ha];rfl,?_⟩;simp [xC,ha]
theorem Ji (n:Nat) (l:List Int) (flow:Bool) (hl:l.length<1000000000) (hn:l.length+30<=n):stop n l flow=some (((xC flow false l:Nat):Int),()):=by
 unfold stop;obtain ⟨y,hy,hv⟩:=JP l flow hl 0 l 0 n rfl hn (by omega);refine (congrArg (fun z=>Option.bind z _) hy).trans ?_;simp only [zaa];have e:Rx l 0=false:=rfl;rw [e,Nat.zero_add] at hv;cases y with
 |inl y=>exact congrArg (fun z=>some (z,())) hv
 |inr y=>exact congrArg (fun z=>some (z,())) hv
def PO (l:List Int):Nat->Nat
 |0=>0
 |k+1=>match l[k]? with
  |some c=>if mL c then PO l k else k+1
  |none=>0
theorem ry (l:List Int) (hl:l.length<1000000000):∀ (k n:Nat),k<=l.length->k+1<=n->vF n l (k:Int)=some ((((PO l k:Nat):Int),()),()):=by
 intro k
 induction k with
 |zero=>
  intro n hk hn;obtain ⟨n,rfl⟩:=pS n;rfl
 |succ k ih=>
  intro n hk hn;obtain ⟨n,rfl⟩:=pS n;have w:zao (((k+1:Nat):Int) - 1)=(k:Int):=by rw [aj]<;>omega
  have e0:(Int.toNat (k:Int))=k:=rfl;have e3:l[k]? =some l[k]:=zam (by omega);simp only [vF,ao (show (0:Int)<((k+1:Nat):Int) by omega),w,af (show (0:Int)<=(k:Int) by omega),zac,e0,e3,zaa,dZ,PO];cases mL l[k] with
  |true=>simp only [zac,if_true];exact ih n (by omega) (by omega)
  |false=>rfl
theorem Je (n:Nat) (l:List Int) (flow:Bool) (hl:l.length<1000000000) (hn:l.length+30<=n):Px n l flow=some (((PO l (xC flow false l):Nat):Int),()):=by
 unfold Px;have:=Sg flow l false;rw [Ji n l flow hl hn];simp only [zaa];rw [ry l hl _ (n+7) this (by omega)];rfl
def P6 (l:List Int):Bool:=l.all fun c=>Oh c &&(decide (c≠10) &&(decide (c≠13) &&decide (c≠65279)))
theorem AT (l:List Int) (hl:l.length<1000000000):∀ (r:List Int) (i n:Nat),l.drop i=r->r.length+1<=n->i<=l.length->qq n l (len l) (i:Int)=if P6 r then some (.inl ((),())) else some (.inr ((false,()),())):=by
 intro r
 induction r with
 |nil=>
  intro i n hr hn hi;obtain ⟨n,rfl⟩:∃ k,n=k+1:=⟨n - 1,by simp at hn;omega⟩;have hlen:l.length<=i:=ox hr;simp only [qq,aC (show len l<=(i:Int) by unfold len;omega),zab];rfl
 |cons c r ih=>
  intro i n hr hn hi;obtain ⟨n,rfl⟩:∃ k,n=k+1:=⟨n - 1,by simp at hn;omega⟩;simp only [zad] at hn;have hlen:l.length=i+r.length+1:=tC hr;have e0:(Int.toNat (i:Int))=i:=rfl;have hx:l[i]? =some c:=sv hr;have w:=wS i;have hd:l.drop (i+1)=r:=sy hr;have hc:P6 (c::r)=((Oh c &&(decide (c≠10) &&(decide (c≠13) &&decide (c≠65279)))) &&P6 r):=rfl;simp only [qq,ao (show (i:Int)<len l by unfold len;omega),af (show (0:Int)<=i by omega),zac,e0,hx,zaa,w,n7,ih (i+1) n hd (by omega) (by omega),hc,vm];cases Oh c with
  |false=>rfl
  |true=>
   by_cases h1:c=10<;>by_cases h2:c=13<;>by_cases h3:c=65279<;>simp [h1,h2,h3]
theorem sr (n:Nat) (l:List Int) (hl:l.length<1000000000) (hn:l.length+1<=n):single n l=some (P6 l,()):=by
 unfold single;have:=AT l hl l 0 n rfl hn (by omega);refine (congrArg (fun z=>Option.bind z _) this).trans ?_;cases P6 l<;>rfl
attribute [local irreducible] E5
attribute [local irreducible] QZ mc
def Q0 (l:List Int):Bool:=l.all fun c=>Oh c &&(decide (c≠13) &&decide (c≠65279))
theorem yL (l t0:List Int) (fl:Bool) (hl:l.length<1000000000):∀ (r:List Int) (i n:Nat),l.drop i=r->r.length+1<=n->i<=l.length->rD n t0 fl l (len l) (i:Int)=if Q0 r then some (.inl ((t0,(fl,())),())) else some (.inr ((false,()),())):=by
 intro r
 induction r with
 |nil=>
  intro i n hr hn hi;obtain ⟨n,rfl⟩:∃ k,n=k+1:=⟨n - 1,by simp at hn;omega⟩;have hlen:l.length<=i:=ox hr;simp only [rD,aC (show len l<=(i:Int) by unfold len;omega),zab];rfl
 |cons c r ih=>
  intro i n hr hn hi;obtain ⟨n,rfl⟩:∃ k,n=k+1:=⟨n - 1,by simp at hn;omega⟩;simp only [zad] at hn;have hlen:l.length=i+r.length+1:=tC hr;have e0:(Int.toNat (i:Int))=i:=rfl;have hx:l[i]? =some c:=sv hr;have w:=wS i;have hd:l.drop (i+1)=r:=sy hr;have hc:Q0 (c::r)=((Oh c &&(decide (c≠13) &&decide (c≠65279))) &&Q0 r):=rfl;simp only [rD,ao (show (i:Int)<len l by unfold len;omega),af (show (0:Int)<=i by omega),zac,e0,hx,zaa,w,n7,ih (i+1) n hd (by omega) (by omega),hc,vm];cases Oh c with
  |false=>rfl
  |true=>
   by_cases h2:c=13<;>by_cases h3:c=65279<;>simp [h2,h3]
theorem zQ (n:Nat) (l:List Int) (fl:Bool) (hl:l.length<1000000000) (hn:l.length+1<=n):literal n l fl=some (Q0 l &&(!fl &&decide (0<l.length)),()):=by
 unfold literal;have:=yL l l fl hl l 0 n rfl hn (by omega);refine (congrArg (fun z=>Option.bind z _) this).trans ?_;have e:aD (0:Int) (len l)=decide (0<l.length):=by
  rw [fu];unfold len;simp
 cases Q0 l with
 |false=>rfl
 |true=>
  simp only [if_true,zaa,e];cases fl<;>rfl
def FY:Bool->List Int->Bool
 |_,[]=>true
 |nl,c::r=>if mL c then !nl &&(match r with | []=>false |d::_=>decide (d≠10) &&(!mL d &&FY false r)) else FY (decide (c=10)) r
end Go.Proofs.YteknbnkjelmfaaaGreatDoor
namespace Go.Proofs.YteknbnkjelmfaaaGreatDoor
open Go Go.Iv Go.Gv
attribute [local irreducible] pt E5 print QZ mc qP qE
theorem PW (s:List UInt8):(ba s).data.toList=s:=by unfold ba;simp
theorem RH (s r:List UInt8) (a:UInt8) (p:Nat) (h:s.drop p=a::r):Go.Utf8.decode (ba s) p=Q1 (pt (a::r)):=by
 rw [←KH,←Go.Lib.decodeL_drop,PW,h]
theorem CV (s:List UInt8):∀ (m:Nat) (r:List UInt8) (n p:Nat) (o xs:List Int),r.length<=m->s.drop p=r->p<=s.length->o.length+r.length<10000000->m+1<=n->d8 m r=some xs->
  uj n o s p=some ((o++xs,()),((s,s.length),())):=by
 intro m
 induction m with
 |zero=>
  intro r n p o xs hm hr hp ho hn hx;obtain ⟨n,rfl⟩:=pS n;have:r= []:=List.length_eq_zero_iff.1 (by omega);subst this;have hlen0:s.length<=p:=ox hr;have hlen:s.length=p:=by omega
  cases hx;have e:Nat.blt p s.length=false:=by rw [←Bool.not_eq_true,Nat.blt_eq];omega
  simp only [uj,e,zab,List.append_nil];rw [hlen]
 |succ m ih=>
  intro r n p o xs hm hr hp ho hn hx;obtain ⟨n,rfl⟩:=pS n;cases r with
  |nil=>
   have hlen0:s.length<=p:=ox hr;have hlen:s.length=p:=by omega
   cases hx;have e:Nat.blt p s.length=false:=by rw [←Bool.not_eq_true,Nat.blt_eq];omega
   simp only [uj,e,zab,List.append_nil];rw [hlen]
  |cons a r=>
   have hlen:s.length=p+(r.length+1):=tC hr;have e:Nat.blt p s.length=true:=by rw [Nat.blt_eq];omega
   simp only [d8] at hx;cases hq:pt (a::r) with
   |none=>rw [hq] at hx;cases hx
   |some q=>
    obtain ⟨c,k⟩:=q;rw [hq] at hx;simp only [Option.map_eq_some_iff] at hx;obtain ⟨ys,hy,rfl⟩:=hx;obtain ⟨_,k2,k3,k4,k5⟩:=yo hq;simp only [zad] at k3 hm ho;have hd:=RH s r a p hr;rw [hq] at hd;have hw:zao ((((Go.Utf8.decode (ba s) p).1:Nat)):Int)=c:=by
     rw [hd]
     show zao ((c.toNat:Nat):Int)=c
     rw [Int.toNat_of_nonneg k4];exact aj (by omega) (by omega)
    have hk:(Go.Utf8.decode (ba s) p).2=k:=by rw [hd];rfl
    have hdr:s.drop (p+k)=(a::r).drop k:=by rw [←zak,hr]
    simp only [uj,e,hw,hk,zac,zad,zah,aV (show (o.length+(0+1))*9<=1099511627776 by omega)];rw [ih _ n (p+k) (o++ [c]) ys (by simp;omega) hdr (by omega) (by simp;omega) (by omega) hy,List.append_assoc];rfl
theorem Cq (n:Nat) (s:List UInt8) (xs:List Int) (hs:s.length<1000000) (hn:s.length+1<=n) (hx:d8 s.length s=some xs):points n s=some (xs,()):=by
 unfold points;rw [CV s s.length s (n+1) 0 [] xs (zal _) rfl (by omega) (by simp;omega) (by omega) hx];rfl
def sA:Bool->List UInt8->Bool
 |_,[]=>true
 |nl,x::r=>if mL (ub x) then !nl &&(match r with | []=>false |y::_=> !mL (ub y) &&sA false r) else sA false r
def qn:Bool->List UInt8->Bool
 |_,[]=>true
 |nl,x::r=>if mL (ub x) then !nl &&(match r with | []=>false |y::_=>decide (y≠10) &&(!mL (ub y) &&qn false r)) else qn (decide (x=10)) r
theorem vD (nl:Bool) (x:UInt8) (r:List UInt8):qn nl (x::r)=if mL (ub x) then !nl &&(match r with | []=>false |y::_=>decide (y≠10) &&(!mL (ub y) &&qn false r)) else qn (decide (x=10)) r:=by cases r<;>rfl
theorem vX (nl:Bool) (c:Int) (r:List Int):FY nl (c::r)=if mL c then !nl &&(match r with | []=>false |d::_=>decide (d≠10) &&(!mL d &&FY false r)) else FY (decide (c=10)) r:=by cases r<;>rfl
theorem Uu (a b:Nat):(((a:Nat):Int) !=((b:Nat):Int))= !decide (a=b):=by rw [Bool.eq_iff_iff];simp;omega
theorem Fh (s:List UInt8) (hs:s.length<1000000000):∀ (r:List UInt8) (i n:Nat),s.drop i=r->r.length+1<=n->i<=s.length->jw n s (len s) (i:Int)=if sA (decide (i=0)) r then some (.inl ((),())) else some (.inr ((false,()),())):=by
 intro r
 induction r with
 |nil=>
  intro i n hr hn hi;obtain ⟨n,rfl⟩:∃ k,n=k+1:=⟨n - 1,by simp at hn;omega⟩;have hlen:s.length<=i:=ox hr;simp only [jw,aC (show len s<=(i:Int) by unfold len;omega),zab];rfl
 |cons x r ih=>
  intro i n hr hn hi;obtain ⟨n,rfl⟩:∃ k,n=k+1:=⟨n - 1,by simp at hn;omega⟩;simp only [zad] at hn;have hlen:s.length=i+r.length+1:=tC hr;have e0:(Int.toNat (i:Int))=i:=rfl;have e0':(Int.toNat ((i+1:Nat):Int))=i+1:=rfl;have hx:s[i]? =some x:=sv hr;have hx1:s[i+1]? =r[0]? :=by have:=dh hr 1;simpa using this
  have w:=wS i;have hd:s.drop (i+1)=r:=sy hr;have IH:=ih (i+1) n hd (by omega) (by omega);rw [show decide (i+1=0)=false by simp] at IH;have hi0:aD (i:Int) (len s)=true:=ao (by unfold len;omega);have hi1:ak (0:Int) (i:Int)=true:=af (by omega);have hi2:ak (0:Int) ((i+1:Nat):Int)=true:=af (by omega);cases hb:mL (ub x) with
  |false=>
   have e:sA (decide (i=0)) (x::r)=sA false r:=by simp only [sA,hb];simp
   rw [e];simp only [jw,hi0,hi1,zac,zab,e0,hx,zaa,dR,dZ,hb,w,IH]
  |true=>
   cases i with
   |zero=>
    have e5:(((0:Nat):Int)==0)=true:=rfl;have e:sA (decide ((0:Nat)=0)) (x::r)=false:=by simp only [sA,hb];rfl
    rw [e];simp only [jw,hi0,hi1,zac,e0,hx,zaa,dR,dZ,hb,e5];rfl
   |succ j=>
    have e5:(((j+1:Nat):Int)==0)=false:=by simp;omega
    cases r with
    |nil=>
     have e10:(((j+1+1:Nat):Int)==len s)=true:=by unfold len;simp at hlen ⊢;omega
     have e:sA (decide (j+1=0)) [x]=false:=by simp only [sA,hb];simp
     rw [e];simp only [jw,hi0,hi1,zac,zab,e0,hx,zaa,dR,dZ,hb,e5,w,e10];rfl
    |cons y r=>
     have e10:(((j+1+1:Nat):Int)==len s)=false:=by unfold len;simp at hlen ⊢;omega
     have hx2:s[j+1+1]? =some y:=hx1;have e:sA (decide (j+1=0)) (x::y::r)=(!mL (ub y) &&sA false (y::r)):=by simp only [sA,hb];simp
     rw [e];simp only [jw,hi0,hi1,hi2,zac,zab,e0,e0',hx,hx2,zaa,dR,dZ,hb,e5,w,e10,IH];cases mL (ub y)<;>rfl
theorem oc (n:Nat) (s:List UInt8) (hs:s.length<1000000000) (hn:s.length+1<=n):wZ n s=some (sA true s,()):=by
 unfold wZ;have:=Fh s hs s 0 n rfl hn (by omega);refine (congrArg (fun z=>Option.bind z _) this).trans ?_;rw [show decide ((0:Nat)=0)=true from rfl];cases sA true s<;>rfl
theorem OD:∀ (t:List UInt8) (nl:Bool),(10:UInt8)∉t->qn nl t=sA nl t:=by
 intro t
 induction t with
 |nil=>intro nl _;rfl
 |cons x t ih=>
  intro nl h;simp only [List.mem_cons,not_or] at h;have hx:decide (x=10)=false:=by simp;exact fun e=>h.1 e.symm
  cases t with
  |nil=>simp only [qn,sA]
  |cons y t=>
   have hy:decide (y≠10)=true:=by
    simp only [decide_eq_true_eq];intro e;exact h.2 (by rw [e];exact List.mem_cons_self)
   rw [qn,sA,ih false h.2,hx,ih false h.2];simp only [hy,Bool.true_and]
theorem Qv:∀ (t rest:List UInt8) (nl:Bool),(10:UInt8)∉t->qn nl (t++10::rest)=(sA nl t &&qn true rest):=by
 intro t
 induction t with
 |nil=>
  intro rest nl _;have:mL (ub 10)=false:=by decide
  simp only [List.nil_append,qn,this,sA];rfl
 |cons x t ih=>
  intro rest nl h;simp only [List.mem_cons,not_or] at h;have hx:decide (x=10)=false:=by simp;exact fun e=>h.1 e.symm
  cases t with
  |nil=>
   have hb:mL (ub 10)=false:=by decide
   simp only [List.cons_append,List.nil_append,qn,sA,hb,hx];cases mL (ub x)<;>simp
  |cons y t=>
   have hy:decide (y≠10)=true:=by
    simp only [decide_eq_true_eq];intro e;exact h.2 (by rw [e];exact List.mem_cons_self)
   have IH:=ih rest false h.2;rw [List.cons_append] at IH;rw [List.cons_append,List.cons_append,qn,sA,hx,IH];simp only [hy,Bool.true_and];cases mL (ub x)<;>simp [Bool.and_assoc]
theorem LJ (c:UInt8):∀ (s:List UInt8) (k i:Nat),s9 c s k=some i->∃ t rest,s=t++c::rest/\k+t.length=i/\c∉t:=by
 intro s
 induction s with
 |nil=>intro k i h;cases h
 |cons x s ih=>
  intro k i h;simp only [s9] at h;split at h
  .cases h
   rename_i hx;exact ⟨[],s,by rw [eq_of_beq hx];rfl,by simp,by simp⟩
  .obtain ⟨t,rest,h1,h2,h3⟩:=ih (k+1) i h
   rename_i hx;refine ⟨x::t,rest,by rw [h1];rfl,by simp;omega,?_⟩;simp only [List.mem_cons,not_or];exact ⟨fun e=>hx (by rw [e];simp),h3⟩
theorem KY (c:UInt8):∀ (s:List UInt8) (k:Nat),s9 c s k=none->c∉s:=by
 intro s
 induction s with
 |nil=>intro k _;simp
 |cons x s ih=>
  intro k h;simp only [s9] at h;split at h
  .cases h
  .rename_i hx
   simp only [List.mem_cons,not_or];exact ⟨fun e=>hx (by rw [e];simp),ih (k+1) h⟩
theorem B1:∀ (m:Nat) (s:List UInt8) (n:Nat),s.length<=m->s.length<1000000000->2*m+3<=n->
  ∃ y,nW n false s ([10]:List UInt8) 0=some y/\(match y with | .inl y=>qn true s=sA true y.2.2.1.1/\y.2.2.1.1.length<=s.length | .inr y=>qn true s=false/\y.2.1.1=false):=by
 intro m
 induction m with
 |zero=>
  intro s n hm hs hn;obtain ⟨n,rfl⟩:=pS n;have:s= []:=List.length_eq_zero_iff.1 (by omega);subst this;exact ⟨_,rfl,rfl,zal _⟩
 |succ m ih=>
  intro s n hm hs hn;obtain ⟨n,rfl⟩:=pS n;have e1:((len ([10]:List UInt8))==(0:Int))=false:=rfl;have e2:((len ([10]:List UInt8))==(1:Int))=true:=rfl;have e3:([10]:List UInt8)[0]? =some 10:=rfl;by_cases hs10:s= [10]
  .subst hs10
   obtain ⟨y,hy,hv⟩:=ih [] n (by simp) (by simp) (by omega);refine ⟨y,?_,?_⟩
   .have f0:=oc (n+1) [] (by simp) (by simp)
    have e4:((([10]:List UInt8)==([10]:List UInt8)))=true:=rfl;have z1:zao ((0:Int)+0)=0:=rfl;have z2:zao ((0:Int)+len ([10]:List UInt8))=1:=rfl;have z3:(ak (0:Int) 0 &&ak (0:Int) (len ([10]:List UInt8)))=true:=rfl;have z4:(ak (0:Int) 1 &&ak (1:Int) (len ([10]:List UInt8)))=true:=rfl;have z5:List.take (Int.toNat 0 - 0) (List.drop 0 ([10]:List UInt8))= []:=rfl;have z6:List.take (List.length ([10]:List UInt8) - Int.toNat 1) (List.drop (Int.toNat 1) ([10]:List UInt8))= []:=rfl;have z7:sA true []=true:=rfl;rw [nW];simp only [e1,e4,zac,zab,zaa,z1,z2,z3,z4,z5,z6,f0,z7,zag];exact hy
   .have e:qn true [10]=qn true []:=rfl
    rw [e];cases y with
    |inl y=>exact ⟨hv.1,Nat.le_trans hv.2 (by simp)⟩
    |inr y=>exact hv
  .have e4:(([10]:List UInt8)==s)=false:=by
    rw [beq_eq_false_iff_ne];exact fun h=>hs10 h.symm
   rw [nW];simp only [e1,e2,e3,e4,zac,zab,zaa];cases hq:s9 10 s 0 with
   |none=>
    have e5:oW 10 s= -1:=by unfold oW;rw [hq]
    have hno:=KY 10 s 0 hq;refine ⟨_,by rw [e5];rfl,?_⟩;exact ⟨OD s true hno,zal _⟩
   |some i=>
    obtain ⟨t,rest,h1,h2,h3⟩:=LJ 10 s 0 i hq;have hi:i=t.length:=by omega
    subst hi;have e5:oW 10 s=(t.length:Int):=by unfold oW;rw [hq]
    have hl:s.length=t.length+rest.length+1:=by rw [h1];simp;omega
    have w1:zao ((t.length:Int)+0)=(t.length:Int):=by rw [Int.add_zero];exact aj (by omega) (by omega)
    have w2:zao ((t.length:Int)+len ([10]:List UInt8))=((t.length+1:Nat):Int):=by
     show zao ((t.length:Int)+1)=_
     rw [aj]<;>omega
    have c1:(ak (0:Int) (t.length:Int) &&ak (t.length:Int) (len s))=true:=by
     rw [af (by omega),af (by unfold len;omega)];rfl
    have c2:(ak (0:Int) ((t.length+1:Nat):Int) &&ak ((t.length+1:Nat):Int) (len s))=true:=by
     rw [af (by omega),af (by unfold len;omega)];rfl
    have t1:List.take ((t.length:Int).toNat - 0) (List.drop 0 s)=t:=by
     rw [List.drop_zero,h1];simp
    have t2:List.take (s.length - (((t.length+1:Nat):Int)).toNat) (List.drop (((t.length+1:Nat):Int)).toNat s)=rest:=by
     have:(((t.length+1:Nat):Int)).toNat=t.length+1:=rfl;rw [this,TS,h1,←zak];simp
    have f1:=oc (n+1) t (by omega) (by omega);have hil:aD (t.length:Int) 0=false:=aC (by omega);simp only [e5,hil,w1,w2,c1,c2,t1,t2,f1,zac,zab,zaa];have hfy:=Qv t rest true h3;rw [←h1] at hfy;cases hf:sA true t with
    |false=>
     refine ⟨_,rfl,?_⟩;rw [hfy,hf];exact ⟨rfl,rfl⟩
    |true=>
     obtain ⟨y,hy,hv⟩:=ih rest n (by omega) (by omega) (by omega);refine ⟨y,hy,?_⟩;rw [hfy,hf,Bool.true_and];cases y with
     |inl y=>exact ⟨hv.1,by have:=hv.2;omega⟩
     |inr y=>exact hv
theorem CT (n:Nat) (s:List UInt8) (hs:s.length<1000000) (hn:2*s.length+3<=n):Ao n s=some (qn true s,()):=by
 unfold Ao;obtain ⟨y,hy,hv⟩:=B1 s.length s n (zal _) (by omega) hn;refine (congrArg (fun z=>Option.bind z _) hy).trans ?_;cases y with
 |inl y=>
  obtain ⟨h1,h2⟩:=hv;have:=oc n y.2.2.1.1 (by omega) (by omega);simp only [zaa];rw [this,h1];cases sA true y.2.2.1.1<;>rfl
 |inr y=>
  rw [hv.1];simp only [zaa];rw [hv.2]
theorem GK {a:UInt8} {r:List UInt8} {c:Int} {k:Nat} (h:pt (a::r)=some (c,k)) (hc:128<=c):∀ x∈(a::r).take k,128<=ub x:=by
 have ha:=iG a;have hp:=pt.eq_def (a::r);dsimp only at hp;rw [hp] at h;split at h
 .cases h;omega
 split at h
 .cases h
 split at h
 .split at h
  .split at h
   .rename_i hb
    cases h;intro x hx;simp at hx;rcases hx with rfl |rfl
    .omega
    .exact hb.1
   .cases h
  .cases h
 split at h
 .split at h
  .split at h
   .rename_i hb
    cases h;intro x hx;simp at hx;rcases hx with rfl |rfl |rfl
    .omega
    .exact hb.1.1
    .exact hb.2.1.1
   .cases h
  .cases h
 split at h
 .split at h
  .split at h
   .rename_i hb
    cases h;intro x hx;simp at hx;rcases hx with rfl |rfl |rfl |rfl
    .omega
    .exact hb.1.1
    .exact hb.2.1.1
    .exact hb.2.2.1.1
   .cases h
  .cases h
 .cases h
theorem tA {c:Int} (h:128<=c):mL c=false:=by
 unfold mL;rw [decide_eq_false_iff_not];omega
theorem Qs:∀ (u v:List UInt8) (nl:Bool),(∀ x∈u,128<=ub x)->u≠ []->qn nl (u++v)=qn false v:=by
 intro u
 induction u with
 |nil=>intro v nl _ h;exact absurd rfl h
 |cons x u ih=>
  intro v nl h _;have hx:=h x List.mem_cons_self;have h10:decide (x=10)=false:=by
   simp only [decide_eq_false_iff_not];intro e;subst e;revert hx;decide
  have e:qn nl ((x::u)++v)=qn false (u++v):=by
   rw [List.cons_append,vD,tA hx,h10];simp
  rw [e];cases u with
  |nil=>rfl
  |cons y u=>exact ih v false (fun z hz=>h z (zan _ hz)) (by simp)
theorem S5 (x:UInt8):decide (ub x=10)=decide (x=10):=by
 rw [decide_eq_decide];constructor
 .intro h
  have:ub x=(x.toNat:Int):=rfl;exact UInt8.toNat_inj.1 (by show x.toNat=10;omega)
 .intro h;subst h;rfl
theorem S2:∀ (m:Nat) (l:List UInt8) (xs:List Int) (nl:Bool),l.length<=m->d8 m l=some xs->qn nl l=FY nl xs:=by
 intro m
 induction m with
 |zero=>
  intro l xs nl hm hx;have:l= []:=List.length_eq_zero_iff.1 (by omega);subst this;cases hx;rfl
 |succ m ih=>
  intro l xs nl hm hx;cases l with
  |nil=>cases hx;rfl
  |cons a r=>
   simp only [d8] at hx;cases hq:pt (a::r) with
   |none=>rw [hq] at hx;cases hx
   |some q=>
    obtain ⟨c,k⟩:=q;rw [hq] at hx;simp only [Option.map_eq_some_iff] at hx;obtain ⟨ys,hy,rfl⟩:=hx;obtain ⟨_,k2,k3,k4,k5⟩:=yo hq;simp only [zad] at k3 hm;have IH:=fun b=>ih ((a::r).drop k) ys b (by simp;omega) hy
    by_cases hc:c<128
    .obtain ⟨ha,rfl,rfl⟩:=zt hq (.inl hc)
     simp only [List.drop_succ_cons,List.drop_zero] at IH hy;cases hb:mL (ub a) with
     |false=>
      have e1:qn nl (a::r)=qn (decide (a=10)) r:=by rw [vD,hb];simp
      have e2:FY nl (ub a::ys)=FY (decide (ub a=10)) ys:=by rw [vX,hb];simp
      rw [e1,e2,IH,S5]
     |true=>
      cases r with
      |nil=>
       have:ys= []:=by cases m<;>(cases hy;rfl)
       subst this;rw [vD,vX,hb];rfl
      |cons y r=>
       cases m with
       |zero=>simp at hm
       |succ m=>
       have hy':=hy;simp only [d8] at hy';cases hq2:pt (y::r) with
       |none=>rw [hq2] at hy';cases hy'
       |some q2=>
        obtain ⟨d,k'⟩:=q2;rw [hq2] at hy';simp only [Option.map_eq_some_iff] at hy';obtain ⟨zs,hz,rfl⟩:=hy';obtain ⟨_,l2,l3,l4,l5⟩:=yo hq2;have e1:qn nl (a::y::r)=(!nl &&(decide (y≠10) &&(!mL (ub y) &&qn false (y::r)))):=by rw [qn,hb];simp
        have e2:FY nl (ub a::d::zs)=(!nl &&(decide (d≠10) &&(!mL d &&FY false (d::zs)))):=by rw [FY,hb];simp
        rw [e1,e2,IH];by_cases hd:d<128
        .obtain ⟨_,rfl,_⟩:=zt hq2 (.inl hd)
         have:decide (y≠10)=decide (ub y≠10):=by
          have:=S5 y;rw [decide_eq_decide] at this ⊢;exact not_congr this.symm
         rw [this]
        .have h1:=GK hq2 (by omega) y (by
          cases k' with
          |zero=>omega
          |succ k'=>simp)
         rw [tA h1,tA (show 128<=d by omega)];have a1:decide (y≠10)=true:=by
          rw [decide_eq_true_eq];intro e;subst e;revert h1;decide
         have a2:decide (d≠10)=true:=by
          rw [decide_eq_true_eq];omega
         rw [a1,a2]
    .have hh:=GK hq (by omega)
     have e2:FY nl (c::ys)=FY false ys:=by
      rw [vX,tA (show 128<=c by omega)];have:decide (c=10)=false:=by rw [decide_eq_false_iff_not];omega
      rw [this];simp
     rw [e2,←IH];have:=Qs ((a::r).take k) ((a::r).drop k) nl hh (by
      cases k with
      |zero=>omega
      |succ k=>simp)
     rw [List.take_append_drop] at this;exact this
def Kp:List UInt8:= [45,45,45]
def Kk:List UInt8:= [46,46,46]
def Cb (st:Int) (s:List UInt8) (xs:List Int) (flow:Bool):Bool:=
 if st=1 then SY true xs &&(decide (PO xs (xC true false xs)=xs.length) &&(P6 xs &&(!V.pre Kp s && !V.pre Kk s)))
 else if st=2 then P6 xs
 else if st=3 then true
 else if st=4 then Q0 xs &&(!flow &&decide (0<xs.length))
 else if st=5 then (Q0 xs &&(!flow &&decide (0<xs.length))) &&FY true xs
 else false
theorem zZ (n:Nat) (s:List UInt8) (xs:List Int) (hx:xs.length<1000000000) (hn:xs.length+30<=n):
  tD n s xs=some (SY true xs &&(decide (PO xs (xC true false xs)=xs.length) &&(P6 xs &&(!V.pre Kp s && !V.pre Kk s))),()):=by
 unfold tD;have h1:=Cw (n+3) xs true (by omega) hx;have h2:=Je n xs true hx hn;have h3:=sr (n+6) xs hx (by omega);have h4:=V.fA (n+7) s Kp;have h5:=V.fA (n+7) s Kk;have e:((((PO xs (xC true false xs):Nat):Int)) !=len xs)= !decide (PO xs (xC true false xs)=xs.length):=Uu _ _;unfold Kp at h4;unfold Kk at h5;simp only [h1,h2,h3,h4,h5,e,zaa,Kp,Kk];cases SY true xs<;>cases decide (PO xs (xC true false xs)=xs.length)<;>cases P6 xs<;>simp only [zag,Bool.not_false,zac,zab,Bool.true_and,Bool.false_and]
 cases V.pre [45,45,45] s<;>simp
theorem Mh (n:Nat) (st:Int) (s:List UInt8) (xs:List Int) (flow:Bool) (hs:s.length<1000000) (hn:2*s.length+40<=n) (hx:d8 s.length s=some xs):may n st s flow=some (Cb st s xs flow,()):=by
 have hl:=Ng _ s xs hx;have hv:Go.Lib.validD s=true:=by rw [xm s.length s (zal _),hx];rfl
 have hb:Nat.ble s.length 9223372036854775807=true:=Nat.ble_eq_true_of_le (by omega);unfold may Cb;simp only [hb,hv,zag,zac,zab,Cq (n+8) s xs hs (by omega) hx,zaa,zZ n s xs (by omega) (by omega),sr (n+7) xs (by omega) (by omega),zQ (n+7) xs flow (by omega) (by omega),CT (n+4) s hs (by omega),S2 s.length s xs true (zal _) hx,vm];by_cases h1:st=1
 .simp only [h1,decide_true,zac,if_true]
 by_cases h2:st=2
 .simp only [h2,decide_true,decide_false,zac,zab,if_true];rfl
 by_cases h3:st=3
 .simp only [h3,decide_true,decide_false,zac,zab,if_true];rfl
 by_cases h4:st=4
 .simp only [h4,decide_true,decide_false,zac,zab,if_true];rfl
 by_cases h5:st=5
 .simp only [h1,h2,h3,h4,h5,decide_true,decide_false,zac,zab,if_true,if_false]
  simp only [show ((5:Int)=1)=False by simp,show ((5:Int)=2)=False by simp,show ((5:Int)=3)=False by simp,show ((5:Int)=4)=False by simp,decide_false,zab,if_false];cases (Q0 xs &&(!flow &&decide (0<xs.length)))<;>simp
 .simp only [h1,h2,h3,h4,h5,decide_false,zab,if_false]
theorem v8 (s:List UInt8) (xs:List Int) (a:Bool):Cb 3 s xs a=true:=rfl
theorem Ei {st:Int} {s:List UInt8} {xs:List Int} {a:Bool} (h:Cb st s xs a=true):1<=st/\st<=5/\(st=1->xs≠ []):=by
 unfold Cb at h;split at h
 .refine ⟨by omega,by omega,fun _ e=>?_⟩
  subst e;cases h
 split at h
 .exact ⟨by omega,by omega,by omega⟩
 split at h
 .exact ⟨by omega,by omega,by omega⟩
 split at h
 .exact ⟨by omega,by omega,by omega⟩
 split at h
 .exact ⟨by omega,by omega,by omega⟩
 .cases h
def oy (k:Nat):List UInt8:= [97]++Go.Lib.itoa (k:Int)
theorem Pz {k:Nat} (h:k<=1000000):(oy k).length<=22:=by
 have:=Go.Lib.itoa_length_le (k:Int) (by omega) (by omega);unfold oy;simp;omega
end Go.Proofs.YteknbnkjelmfaaaGreatDoor
namespace Go.Proofs.YteknbnkjelmfaaaGreatDoor
open Go Go.Iv Go.Gv
abbrev cZ:=Int×gc
def B6 (t:List UInt8):Prop:=t= []\/(eG t=true/\t.length<=10000)
def Md (a:List UInt8):Prop:=a= []\/∃ k,k<=1000000/\a=oy k
def D5 (fl:Bool) (e:cZ):Prop:=
 (∃ k,k<=1000000/\e=(8,([],([],(oy k,(0,false))))))\/
 (∃ s t a st xs,e=(7,(s,(t,(a,(st,false)))))/\B6 t/\Md a/\s.length<=9000/\d8 s.length s=some xs/\Cb st s xs fl=true)
def jB (m:Bool):Int:=if m then 5 else 3
def eE (m:Bool):cZ:=(jB m+1,([],([],([],(0,false)))))
def Vt (m fl:Bool) (k:Nat) (e:cZ):Prop:=∃ t a,e=(jB m,([],(t,(a,(0,fl ||decide (k=0))))))/\B6 t/\Md a
inductive sT (F:Bool):Bool->Bool->Bool->Nat->Nat->List cZ->Prop
 |nil {key m odd d}:sT F key m odd d 0 []
 |leaf {key m odd d k e r}:D5 (F ||(key ||(m && !odd))) e->sT F key m (!odd) d k r->sT F key m odd d (k+1) (e::r)
 |jy {key m odd d k m2 k2 e w r}:Vt m2 (F ||(key ||(m && !odd))) k2 e->(m2=true->k2%2=0)->sT F (key ||(m && !odd)) m2 false d k2 w->sT F key m (!odd) (d+1) k r->sT F key m odd (d+1) (k+1) (e::(w++eE m2::r))
theorem sT.snoc {F key m odd:Bool} {d k k':Nat} {w r:List cZ} (h:sT F key m odd d k w):sT F key m (odd !=decide (k%2=1)) d k' r->sT F key m odd d (k+k') (w++r):=by
 induction h with
 |nil=>intro h2;simpa using h2
 |@leaf key m odd d k e r' h1 _ ih=>
  intro h2;rw [show k+1+k'=(k+k')+1 by omega];refine .leaf h1 (ih ?_);have:(odd !=decide ((k+1)%2=1))=((!odd) !=decide (k%2=1)):=by
   have:decide ((k+1)%2=1)= !decide (k%2=1):=by
    rw [Bool.eq_iff_iff];simp;omega
   rw [this];cases odd<;>cases decide (k%2=1)<;>rfl
  rw [this] at h2;exact h2
 |@jy key m odd d k m2 k2 e w r' h1 h2 h3 _ _ ih=>
  intro h4;rw [show k+1+k'=(k+k')+1 by omega];rw [show (e::(w++eE m2::r'))++r=e::(w++eE m2::(r'++r)) by simp];refine .jy h1 h2 h3 (ih ?_);have:(odd !=decide ((k+1)%2=1))=((!odd) !=decide (k%2=1)):=by
   have:decide ((k+1)%2=1)= !decide (k%2=1):=by
    rw [Bool.eq_iff_iff];simp;omega
   rw [this];cases odd<;>cases decide (k%2=1)<;>rfl
  rw [this] at h4;exact h4
theorem sT.le {F key m odd:Bool} {d k:Nat} {w:List cZ} (h:sT F key m odd d k w):k<=w.length:=by
 induction h with
 |nil=>simp
 |leaf _ _ ih=>simp;omega
 |jy _ _ _ _ _ ih=>simp;omega
theorem RR (k:Nat):oy k≠ []:=by unfold oy;simp
theorem IG (n k:Nat):Ep n (8,([],([],(oy k,(0,false)))))=some (true,()):=by
 have h:(oy k==([]:List UInt8))=false:=by rw [beq_eq_false_iff_ne];exact RR k
 unfold Ep;simp only [h];rfl
theorem DO (n:Nat) (s t a:List UInt8) (st:Int) (h1:1<=st) (h2:st<=5):Ep n (7,(s,(t,(a,(st,false)))))=some (true,()):=by
 have e1:aD st 1=false:=aC h1;have e2:aD 5 st=false:=aC h2;unfold Ep;simp only [e1,e2];rfl
theorem N6 (n:Nat) (m fl:Bool) (t a:List UInt8):Ep n (jB m,([],(t,(a,(0,fl)))))=some (true,()):=by
 cases m<;>rfl
theorem P9 (n:Nat) (m:Bool):Ep n (eE m)=some (true,()):=by cases m<;>rfl
def iQ (fl:Bool):cZ:=(1,([],([],([],(0,fl)))))
def dG:cZ:=(2,([],([],([],(0,false)))))
theorem PC (n:Nat) (fl:Bool):Ep n (iQ fl)=some (true,()):=by cases fl<;>rfl
theorem NI (n:Nat):Ep n dG=some (true,()):=rfl
theorem QG {fl:Bool} {e:cZ} (h:D5 fl e) (n:Nat):Ep n e=some (true,()):=by
 rcases h with ⟨k,_,rfl⟩ |⟨s,t,a,st,xs,rfl,_,_,_,_,h⟩
 .exact IG n k
 .have:=Ei h
  exact DO n s t a st this.1 this.2.1
theorem jS {fl:Bool} {e:cZ} (h:D5 fl e):e.1=7\/e.1=8:=by
 rcases h with ⟨k,_,rfl⟩ |⟨s,t,a,st,xs,rfl,_⟩
 .exact .inr rfl
 .exact .inl rfl
theorem Rm {F key m odd:Bool} {d k:Nat} {w:List cZ} (h:sT F key m odd d k w):∀ e∈w,∀ n,Ep n e=some (true,()):=by
 induction h with
 |nil=>intro e h;cases h
 |leaf h1 _ ih=>
  intro e h n;rcases List.mem_cons.1 h with rfl |h
  .exact QG h1 n
  .exact ih e h n
 |jy h1 _ _ _ ih1 ih2=>
  intro e h n;rcases List.mem_cons.1 h with rfl |h
  .obtain ⟨t,a,rfl,_,_⟩:=h1
   exact N6 n _ _ t a
  .rcases List.mem_append.1 h with h |h
   .exact ih1 e h n
   .rcases List.mem_cons.1 h with rfl |h
    .exact P9 n _
    .exact ih2 e h n
theorem Df {α:Type} (l:List α) (x y:α):List.set (l++ [x]) l.length y=l++ [y]:=by
 rw [List.set_append_right _ _ (zal _)];simp
theorem mN {α:Type} (l:List α) (x:α):List.take (l.length - 0) (List.drop 0 (l++ [x]))=l:=by simp
theorem gj {α:Type} (l:List α) (x:α):len (l++ [x])=(l.length:Int)+1:=by unfold len;simp
theorem jV {α:Type} (l:List α) (x:α):(l++ [x])[l.length]? =some x:=by simp
theorem Er (l:List cZ) (hl:l.length<1000000000) {F key m odd:Bool} {d k:Nat} {w:List cZ} (h:sT F key m odd d k w):∀ (cs:List Int) (c:Int) (ms:List Bool) (mm:Bool) (post:List cZ) (i n:Nat),ms.length=cs.length->cs.length+d<=100000->0<=c->c+k<1000000000->l.drop i=w++post->i+w.length<=l.length->
  dw (n+w.length) l (cs++ [c]) (ms++ [mm]) (i:Int)=dw n l (cs++ [c+k]) (ms++ [mm]) ((i+w.length:Nat):Int):=by
 induction h with
 |nil=>
  intro cs c ms mm post i n _ _ _ _ _ _;simp
 |@leaf key m odd d k e r h1 _ ih=>
  intro cs c ms mm post i n hm hd h0 hc hr hi;simp only [zad] at hi ⊢;have e0:(Int.toNat (i:Int))=i:=rfl;have hx:l[i]? =some e:=sv hr;have w1:=wS i;have w2:zao ((cs.length:Int)+1 - 1)=(cs.length:Int):=by rw [Int.add_sub_cancel];exact aj (by omega) (by omega)
  have w3:zao (c+1)=c+1:=aj (by omega) (by omega);have e1:(Int.toNat (cs.length:Int))=cs.length:=rfl;have hd1:l.drop (i+1)=r++post:=sy hr;have b1:ak (0:Int) (cs.length:Int)=true:=af (by omega);have b2:aD (cs.length:Int) ((cs.length:Int)+1)=true:=ao (by omega);have b3:aD (0:Int) ((cs.length:Int)+1)=true:=ao (by omega);have IH:=ih cs (c+1) ms mm post (i+1) n hm hd (by omega) (by omega) hd1 (by omega);have k4:(e.1==4)=false/\(e.1==6)=false/\(e.1==3)=false/\(e.1==5)=false:=by
   rcases jS h1 with h |h<;>rw [h]<;>exact ⟨rfl,rfl,rfl,rfl⟩
  obtain ⟨q1,q2,q3,q4⟩:=k4;rw [show n+(r.length+1)=(n+r.length)+1 by omega,dw];simp only [ao (show (i:Int)<len l by unfold len;omega),af (show (0:Int)<=i by omega),zac,zab,e0,hx,zaa,q1,q2,q3,q4,gj,w1,w2,w3,e1,b1,b2,b3,zai,jV,Df];rw [IH];have a1:c+1+(k:Int)=c+((k+1:Nat):Int):=by omega
  have a2:i+1+r.length=i+(r.length+1):=by omega
  rw [a1,a2]
 |@jy key m odd d k m2 k2 e w r h1 h2 h3 _ ih1 ih2=>
  intro cs c ms mm post i n hm hd h0 hc hr hi;have hk2:=h3.le;simp only [zad,zaf] at hi ⊢;obtain ⟨t,a,rfl,_,_⟩:=h1;have e0:(Int.toNat (i:Int))=i:=rfl;have hx:l[i]? =some (jB m2,([],(t,(a,(0,(F ||(key ||(m && !odd))) ||decide (k2=0)))))):=by have:=dh hr 0;simpa using this
  have w1:=wS i;have w2:zao ((cs.length:Int)+1 - 1)=(cs.length:Int):=by rw [Int.add_sub_cancel];exact aj (by omega) (by omega)
  have w3:zao (c+1)=c+1:=aj (by omega) (by omega);have e1:(Int.toNat (cs.length:Int))=cs.length:=rfl;have hd1:l.drop (i+1)=w++(eE m2::(r++post)):=by rw [←zak,hr];simp
  have hd2:l.drop (i+1+w.length)=eE m2::(r++post):=by rw [←zak,hd1];simp
  have hd3:l.drop (i+1+w.length+1)=r++post:=by rw [←zak,hd2];rfl
  have hx2:l[i+1+w.length]? =some (eE m2):=by have:=dh hd2 0;simpa using this
  have b1:ak (0:Int) (cs.length:Int)=true:=af (by omega);have b2:aD (cs.length:Int) ((cs.length:Int)+1)=true:=ao (by omega);have b3:aD (0:Int) ((cs.length:Int)+1)=true:=ao (by omega);have IH1:=ih1 (cs++ [c+1]) 0 (ms++ [mm]) m2 (eE m2::(r++post)) (i+1) (n+r.length+1) (by simp;omega) (by simp;omega) (by omega) (by omega) hd1 (by omega);have IH2:=ih2 cs (c+1) ms mm post (i+1+w.length+1) n hm hd (by omega) (by omega) hd3 (by omega);rw [Int.zero_add] at IH1;have r1:room ((cs++ [c+1]).length*9+9)=true:=aV (by simp;omega);have rm1:room (((cs++ [c+1]).length+List.length ((0:Int)::([]:List Int)))*9)=true:=aV (by simp;omega);have rm2:∀ b:Bool,room (((ms++ [mm]).length+List.length (b::([]:List Bool)))*2)=true:=fun b=>aV (by simp;omega)
  have kq:(jB m2==4)=false/\(jB m2==6)=false/\(bif jB m2==3 then some true else some (jB m2==5):Option Bool)=some true/\(jB m2==5)=m2:=by cases m2<;>exact ⟨rfl,rfl,rfl,rfl⟩
  obtain ⟨q1,q2,q3,q4⟩:=kq;have step1:dw (n+(w.length+(r.length+1)+1)) l (cs++ [c]) (ms++ [mm]) (i:Int)=dw (n+r.length+1+w.length) l ((cs++ [c+1])++ [0]) ((ms++ [mm])++ [m2]) ((i+1:Nat):Int):=by
   rw [show n+(w.length+(r.length+1)+1)=(n+r.length+1+w.length)+1 by omega]
   conv=>lhs;rw [dw]
   simp only [ao (show (i:Int)<len l by unfold len;omega),af (show (0:Int)<=i by omega),zac,zab,e0,hx,zaa,q1,q2,gj,w1,w2,w3,e1,b1,b2,b3,zai,jV,Df,q3,rm1,rm2,q4];cases m2<;>rfl
  rw [step1,IH1];have e2:(Int.toNat ((i+1+w.length:Nat):Int))=i+1+w.length:=rfl;have w4:zao (((i+1+w.length:Nat):Int)+1)=((i+1+w.length+1:Nat):Int):=by rw [aj]<;>omega
  have hcl:((cs++ [c+1]).length:Int)=(cs.length:Int)+1:=by simp
  have w5:zao (((cs++ [c+1]).length:Int)+1 - 1)=((cs++ [c+1]).length:Int):=by rw [Int.add_sub_cancel];exact aj (by omega) (by omega)
  have e3:(Int.toNat ((cs++ [c+1]).length:Int))=(cs++ [c+1]).length:=rfl;have hml:(cs++ [c+1]).length=(ms++ [mm]).length:=by simp;omega
  have b4:ak (0:Int) ((cs++ [c+1]).length:Int)=true:=af (by omega);have b5:aD ((cs++ [c+1]).length:Int) (((cs++ [c+1]).length:Int)+1)=true:=ao (by omega);have b6:ak ((cs++ [c+1]).length:Int) (((cs++ [c+1]).length:Int)+1)=true:=af (by omega);have lm:len ((ms++ [mm])++ [m2])=((cs++ [c+1]).length:Int)+1:=by rw [gj,hml]
  have gm:((ms++ [mm])++ [m2])[(cs++ [c+1]).length]? =some m2:=by rw [hml];exact jV _ _
  have tm:List.take ((cs++ [c+1]).length - 0) (List.drop 0 ((ms++ [mm])++ [m2]))=ms++ [mm]:=by rw [hml];exact mN _ _
  have md:(Int.tmod ((k2:Nat):Int) 2==1)=decide (k2%2=1):=by
   rw [Int.tmod_eq_emod_of_nonneg (by omega),vm,decide_eq_decide];omega
  have ke:((eE m2).1==4)= !m2/\((eE m2).1==6)=m2:=by cases m2<;>exact ⟨rfl,rfl⟩
  have step2:dw (n+r.length+1) l ((cs++ [c+1])++ [(k2:Int)]) ((ms++ [mm])++ [m2]) ((i+1+w.length:Nat):Int)=dw (n+r.length) l (cs++ [c+1]) (ms++ [mm]) ((i+1+w.length+1:Nat):Int):=by
   conv=>lhs;rw [dw]
   simp only [ao (show ((i+1+w.length:Nat):Int)<len l by unfold len;omega),af (show (0:Int)<=((i+1+w.length:Nat):Int) by omega),zac,zab,e2,hx2,zaa,ke.1,ke.2,gj (cs++ [c+1]),lm,w4,w5,e3,b4,b5,b6,zai,jV,gm,mN,tm,md];cases hm2:m2 with
   |false=>rfl
   |true=>
    have:decide (k2%2=1)=false:=by rw [decide_eq_false_iff_not];have:=h2 hm2;omega
    simp only [this];rfl
  rw [step2,IH2];have a1:c+1+(k:Int)=c+((k+1:Nat):Int):=by omega
  have a2:i+1+w.length+1+r.length=i+(w.length+(r.length+1)+1):=by omega
  rw [a1,a2]
theorem uS {F key m odd:Bool} {d k:Nat} {w:List cZ} (h:sT F key m odd d k w) (hk:k=1) (hw:w.length<900000000) (hd:d<=10000) (n:Nat) (hn:w.length+2<=n):pP n w=some (true,()):=by
 unfold pP;cases h with
 |nil=>cases hk
 |@leaf _ _ _ _ k e r h1 h3=>
  have hk0:k=0:=by omega
  subst hk0;cases h3;obtain ⟨n,rfl⟩:∃ x,n=x+1:=⟨n - 1,by simp at hn;omega⟩;have k4:(e.1==4)=false/\(e.1==6)=false/\(e.1==3)=false/\(e.1==5)=false:=by
   rcases jS h1 with h |h<;>rw [h]<;>exact ⟨rfl,rfl,rfl,rfl⟩
  obtain ⟨q1,q2,q3,q4⟩:=k4;have:dw (n+1+1) [e] [] [] 0=some (.inl ((),())):=by
   have x0:([e]:List cZ)[Int.toNat 0]? =some e:=rfl;have x1:aD 0 (len [e])=true:=rfl;have x2:ak (0:Int) 0=true:=rfl;have x3:aD 0 (len ([]:List Int))=false:=rfl;rw [dw];simp only [x0,x1,x2,x3,q1,q2,q3,q4,zac,zab,zaa];rfl
  refine (congrArg (fun z=>Option.bind z _) this).trans ?_;rfl
 |@jy _ _ _ d k m2 k2 e w r h1 h2 h3 h4=>
  have hk0:k=0:=by omega
  subst hk0;cases h4;obtain ⟨t,a,rfl,_,_⟩:=h1;simp only [zad,zaf,zah] at hw hn;generalize hg:(((jB m2,([],(t,(a,(0,(F ||(key ||(m && !odd))) ||decide (k2=0)))))):cZ)::(w++ [eE m2]))=l;have hk2:=h3.le;have hl:l.length=w.length+2:=by rw [←hg];simp
  have hx:l[0]? =some (jB m2,([],(t,(a,(0,(F ||(key ||(m && !odd))) ||decide (k2=0)))))):=by rw [←hg];rfl
  have hd1:l.drop 1=w++ [eE m2]:=by rw [←hg];rfl
  have hx2:l[1+w.length]? =some (eE m2):=by
   have:=dh hd1 w.length;rw [this];simp
  obtain ⟨n,rfl⟩:∃ x,n=x+2+w.length:=⟨n - 2 - w.length,by omega⟩;have P:=Er l (by omega) h3 [] 0 [] m2 [eE m2] 1 (n+2) rfl (by simp;omega) (by omega) (by omega) hd1 (by omega);rw [Int.zero_add] at P;simp only [List.nil_append] at P;have kq:(jB m2==4)=false/\(jB m2==6)=false/\(bif jB m2==3 then some true else some (jB m2==5):Option Bool)=some true/\(jB m2==5)=m2:=by cases m2<;>exact ⟨rfl,rfl,rfl,rfl⟩
  obtain ⟨q1,q2,q3,q4⟩:=kq;have x1:aD 0 (len l)=true:=ao (by unfold len;omega);have x2:ak (0:Int) 0=true:=rfl;have x3:aD 0 (len ([]:List Int))=false:=rfl;have x4:(Int.toNat 0)=0:=rfl;have x5:zao ((0:Int)+1)=((1:Nat):Int):=rfl;have x6:room ((List.length ([]:List Int)+List.length ((0:Int)::([]:List Int)))*9)=true:=aV (by simp);have x7:∀ b:Bool,room ((List.length ([]:List Bool)+List.length (b::([]:List Bool)))*2)=true:=fun b=>aV (by simp)
  have s1:dw (n+2+w.length+1) l [] [] 0=dw (n+2+w.length) l [0] [m2] ((1:Nat):Int):=by
   conv=>lhs;rw [dw]
   simp only [x1,x2,x3,x4,x5,x6,x7,hx,q1,q2,q4,zac,zab,zaa];cases m2<;>rfl
  have md:(Int.tmod ((k2:Nat):Int) 2==1)=decide (k2%2=1):=by
   rw [Int.tmod_eq_emod_of_nonneg (by omega),vm,decide_eq_decide];omega
  have ke:((eE m2).1==4)= !m2/\((eE m2).1==6)=m2:=by cases m2<;>exact ⟨rfl,rfl⟩
  have y1:aD ((1+w.length:Nat):Int) (len l)=true:=ao (by unfold len;omega);have y2:ak (0:Int) ((1+w.length:Nat):Int)=true:=af (by omega);have y3:(Int.toNat ((1+w.length:Nat):Int))=1+w.length:=rfl;have y4:zao (((1+w.length:Nat):Int)+1)=((1+w.length+1:Nat):Int):=by rw [aj]<;>omega
  have y5:∀ x:Int,zao (len [x] - 1)=0:=fun x=>rfl
  have y6:(ak (0:Int) 0 &&aD (0:Int) (len [m2]))=true:=rfl;have y7:∀ x:Int,(ak (0:Int) 0 &&aD (0:Int) (len [x]))=true:=fun x=>rfl
  have y8:∀ x:Int,(ak (0:Int) 0 &&ak (0:Int) (len [x]))=true:=fun x=>rfl
  have y9:(ak (0:Int) 0 &&ak (0:Int) (len [m2]))=true:=rfl;have z1:([m2]:List Bool)[0]? =some m2:=rfl;have z2:∀ x:Int,([x]:List Int)[0]? =some x:=fun x=>rfl
  have s2:dw (n+2) l [(k2:Int)] [m2] ((1+w.length:Nat):Int)=some (.inl ((),())):=by
   rw [dw];simp only [y1,y2,y3,y4,y5,y6,y7,y8,y9,x4,hx2,z1,z2,ke.1,ke.2,md,zac,zab,zaa];have fin:dw (n+1) l [] [] ((1+w.length+1:Nat):Int)=some (.inl ((),())):=by
    rw [dw];simp only [aC (show len l<=((1+w.length+1:Nat):Int) by unfold len;omega),zab]
   cases hm2:m2 with
   |false=>exact fin
   |true=>
    have:decide (k2%2=1)=false:=by rw [decide_eq_false_iff_not];have:=h2 hm2;omega
    simp only [this];exact fin
  refine (congrArg (fun z=>Option.bind z _) (s1.trans (P.trans s2))).trans ?_;rfl
def Lu (l:List UInt8):Nat:=l.foldl (fun a d=>10*a+(d.toNat - 48)) 0
theorem I8 (l:List UInt8) (d:UInt8):Lu (l++ [d])=10*Lu l+(d.toNat - 48):=by
 unfold Lu
 grind
theorem Gx (k:Nat) (h:k<10):(UInt8.ofNat (48+k)).toNat - 48=k:=by
 have:(UInt8.ofNat (48+k)).toNat=48+k:=by
  rw [UInt8.toNat_ofNat'];omega
 omega
theorem Dd (u:Nat):Lu (Lib.decDigits u)=u:=by
 induction u using Nat.strongRecOn with
 |_ u ih=>
  rw [Lib.decDigits];split
  .rename_i h
   show 10*0+_=u
   rw [Gx u h];omega
  .rename_i h
   rw [I8,ih (u / 10) (by omega),Gx _ (by omega)];omega
theorem FW {a b:Nat} (h:oy a=oy b):a=b:=by
 unfold oy at h;have h:=List.append_cancel_left h;unfold Lib.itoa at h;rw [if_neg (by omega),if_neg (by omega)] at h;have:=congrArg Lu h;rw [Dd,Dd] at this;omega
def BB (u:List co) (x:Int):Bool:=decide (2<=aW KI u x 0)
def iP (u:List co) (o:List Int):List Int:=o.filter (BB u)
def HB:Nat->List Int->List ls
 |_,[]=> []
 |k,x::r=>(x,oy (k+1))::HB (k+1) r
def sE (u:List co) (o:List Int):List ls:=HB 0 (iP u o)
def Fa (u:List co) (o:List Int) (x:Int):List UInt8:=oy ((iP u o).idxOf x+1)
def zV (u:List co) (o:List Int) (x:Int):List UInt8:=if BB u x=true then oy ((iP u o).length+1) else []
theorem tq (u:List co) (a b:List Int):iP u (a++b)=iP u a++iP u b:=List.filter_append ..
theorem tL (u:List co) (x:Int):iP u [x]=if BB u x=true then [x] else []:=by
 unfold iP
 grind
theorem kA {u:List co} {o:List Int} {x:Int}:x∈iP u o↔x∈o/\BB u x=true:=List.mem_filter
theorem OU:∀ (a b:List Int) (k:Nat),HB k (a++b)=HB k a++HB (k+a.length) b:=by
 intro a
 induction a with
 |nil=>intro b k;rfl
 |cons x a ih=>
  intro b k;simp only [List.cons_append,HB,ih,zad]
  grind
theorem Po:∀ (a:List Int) (k:Nat),(HB k a).length=a.length:=by
 intro a
 induction a with
 |nil=>intro k;rfl
 |cons x a ih=>intro k;simp [HB,ih]
theorem GI:∀ (a:List Int) (k:Nat) (x:Int),ll KI (HB k a) x=if x∈a then some (oy (k+a.idxOf x+1)) else none:=by
 intro a
 induction a with
 |nil=>intro k x;rfl
 |cons y a ih=>
  intro k x;rw [HB,jM];by_cases h:x=y
  .subst h;simp
  .rw [if_neg h,ih]
   by_cases h2:x∈a
   .rw [if_pos h2,if_pos (zan _ h2),List.idxOf_cons]
    have:(y==x)=false:=by simp;exact fun e=>h e.symm
    rw [this];simp only [zab];rw [show k+1+a.idxOf x+1=k+(a.idxOf x+1)+1 by omega]
   grind
theorem O3:∀ (a:List Int) (k:Nat) (x:Int) (y:List UInt8),x∉a->de KI (HB k a) x y=HB k a++ [(x,y)]:=by
 intro a
 induction a with
 |nil=>intro k x y _;rfl
 |cons z a ih=>
  intro k x y h;simp at h;rw [HB,xT,if_neg h.1,ih (k+1) x y h.2];rfl
theorem Ox (u:List co) (o:List Int) (x:Int):IY KI (sE u o) x=decide (x∈o/\BB u x=true):=by
 unfold IY sE;rw [GI];by_cases h:x∈iP u o
 .rw [if_pos h,decide_eq_true (kA.1 h)];rfl
 .rw [if_neg h,decide_eq_false (fun e=>h (kA.2 e))];rfl
theorem He {u:List co} {o:List Int} {x:Int} (h1:x∈o) (h2:BB u x=true):aW KI (sE u o) x []=Fa u o x:=by
 unfold aW sE;rw [GI,if_pos (kA.2 ⟨h1,h2⟩),Nat.zero_add];rfl
theorem Qk (u:List co) (o:List Int):(sE u o).length=(iP u o).length:=Po _ _
theorem zK (u:List co) (o:List Int):(iP u o).length<=o.length:=List.length_filter_le ..
theorem P7 {u:List co} {o:List Int} {x:Int} (h1:x∉o) (h2:BB u x=true):de KI (sE u o) x (oy ((iP u o).length+1))=sE u (o++ [x]):=by
 unfold sE;rw [O3 _ _ _ _ (fun h=>h1 (kA.1 h).1),tq,tL,if_pos h2,OU,Nat.zero_add];rfl
theorem KD {u:List co} {o:List Int} {x:Int} (h2:BB u x=false):sE u (o++ [x])=sE u o:=by
 unfold sE;rw [tq,tL,if_neg (by rw [h2];decide),List.append_nil]
theorem KX {u:List co} {o:List Int} {x:Int} (h1:x∉o) (h2:BB u x=true):Fa u (o++ [x]) x=oy ((iP u o).length+1):=by
 unfold Fa;rw [tq,tL,if_pos h2,List.idxOf_append,if_neg (fun h=>h1 (kA.1 h).1)];simp
abbrev aY:=Int×ci
def bt (g:List aY) (x:Int):List Int:=match g[x.toNat]? with
 |some n=>n.2.2.2.1
 |none=> []
def Me:List UInt8:= [116,97,103,58,121,97,109,108,46,111,114,103,44,50,48,48,50,58]
def G6 (k:Int):List UInt8:=if k=1 then Me++ [115,116,114] else if k=2 then Me++ [115,101,113] else if k=3 then Me++ [109,97,112] else []
def qx (C:List UInt8->List UInt8) (k:Int) (t s:List UInt8) (pl:Bool):List UInt8:=
 if t≠ []/\t≠ [33] then t else if t= [33]\/k≠1\/pl=false then G6 k else C s
inductive bA (C:List UInt8->List UInt8) (g:List aY) (u:List co):List Int->List Int->List cZ->List Int->Prop
 |nil {o:List Int}:bA C g u o [] [] o
 |alias {o o' ks:List Int} {k:Int} {w:List cZ}:k∈o->BB u k=true->bA C g u o ks w o'->bA C g u o (k::ks) ((8,([],([],(Fa u o k,(0,false)))))::w) o'
 |scalar {o o' ks:List Int} {k st:Int} {w:List cZ} {tg s t:List UInt8} {pl:Bool}:k∉o->g[k.toNat]? =some (1,(tg,(s,([],pl))))->qx C 1 t s (st==1)=tg->bA C g u (o++ [k]) ks w o'->bA C g u o (k::ks) ((7,(s,(t,(zV u o k,(st,false)))))::w) o'
 |jy {o o1 o' ks kk:List Int} {k:Int} {w1 w:List cZ} {tg t:List UInt8} {m fl pl:Bool}:k∉o->g[k.toNat]? =some (bif m then 3 else 2,(tg,([],(kk,pl))))->qx C (bif m then 3 else 2) t [] false=tg->bA C g u (o++ [k]) kk w1 o1->bA C g u o1 ks w o'->bA C g u o (k::ks) ((jB m,([],(t,(zV u o k,(0,fl)))))::(w1++eE m::w)) o'
variable {C:List UInt8->List UInt8} {g:List aY} {u:List co}
theorem bA.app {o o1 o2 ks ks2:List Int} {w w2:List cZ} (h:bA C g u o ks w o1) (h2:bA C g u o1 ks2 w2 o2):bA C g u o (ks++ks2) (w++w2) o2:=by
 induction h with
 |nil=>exact h2
 |alias a b _ ih=>exact .alias a b (ih h2)
 |scalar a b c _ ih=>exact .scalar a b c (ih h2)
 |@jy o o1 o' ks kk k w1 w tg t m fl pl a b c d _ ih1 ih2=>
  have:=bA.jy (fl:=fl) a b c d (ih2 h2);simpa using this
theorem bA.pre {o o' ks:List Int} {w:List cZ} (h:bA C g u o ks w o'):∃ r,o'=o++r:=by
 induction h with
 |nil=>simp_all
 |alias _ _ _ ih=>exact ih
 |scalar _ _ _ _ ih=>
  grind
 |jy _ _ _ _ _ ih1 ih2=>
  grind
theorem bA.len {o o' ks:List Int} {w:List cZ} (h:bA C g u o ks w o'):o'.length<=o.length+w.length:=by
 induction h with
 |nil=>simp
 |alias _ _ _ ih=>grind
 |scalar _ _ _ _ ih=>grind
 |jy _ _ _ _ _ ih1 ih2=>grind
end Go.Proofs.YteknbnkjelmfaaaGreatDoor
