/- Law 5: signs, beginnings, runs of digits, noughts left off. -/
import Derived.Test.YtnddpppljnjmcaaGreatDoorLaw
import Derived.Test.YtnddpppljnjmcaaGreatDoorGvPlain
import Derived.Lib.ItoaLen
import Derived.Test.YtnddpppljnjmcaaGreatDoorGvSpecX
import Derived.Test.YtnddpppljnjmcaaGreatDoorProg
import Derived.Test.YtnddpppljnjmcaaGreatDoorGs
set_option linter.unusedSimpArgs false
set_option linter.unusedVariables false
namespace Go.Proofs.YtnddpppljnjmcaaGreatDoor.V
open Go Go.Iv Go.Gv
set_option linter.unusedSimpArgs false
set_option linter.unusedVariables false
theorem dA {α:Type} (l:List α) (k:Nat):List.take (l.length - k) (List.drop k l)=List.drop k l:=by
 rw [List.take_of_length_le];rw [List.length_drop];exact Nat.le_refl _
theorem dM {n:Nat} (h:n≤1000000):room n=true:=ju (Nat.le_trans h (by decide))
def pre:List UInt8→List UInt8→Bool
 | [],_=>true
 |_::_,[]=>false
 |a::r,b::s=>(b==a) &&pre r s
theorem pc:∀ (x s:List UInt8),pre x s=true→x.length≤s.length
 | [],_,_=>Nat.zero_le _
 |_::_,[],h=>by cases h
 |a::r,b::s,h=>by
  simp only [pre,Bool.and_eq_true] at h
  have:=pc r s h.2
  simp only [List.length_cons];omega
theorem B8:∀ (x s:List UInt8),x.length≤s.length→(List.take x.length s==x)=pre x s
 | [],_,_=>rfl
 |_::_,[],h=>by simp at h
 |a::r,b::s,h=>by
  simp only [List.length_cons] at h
  have:=B8 r s (by omega)
  simp only [List.length_cons,List.take_succ_cons,pre,←this]
  rfl
theorem yA:∀ (x s:List UInt8),s.length<x.length→pre x s=false
 | [],_,h=>by simp at h
 |_::_,[],h=>rfl
 |a::r,b::s,h=>by
  simp only [List.length_cons] at h
  simp only [pre,yA r s (by omega),Bool.and_false]
theorem dW (n:Nat) (s x:List UInt8):eS n s x=some (pre x s,()):=by
 unfold eS len
 by_cases h:x.length≤s.length
 ·simp only [ak (show ((x.length:Nat):Int)≤(s.length:Nat) by omega),cond_true,List.drop_zero,Nat.sub_zero,Int.toNat_natCast,B8 x s h]
 ·simp only [gO (show ((s.length:Nat):Int)<(x.length:Nat) by omega),cond_false,yA x s (by omega)]
theorem fO (n:Nat) (s x:List UInt8):iY n s x=some (pre x s,()):=dW n s x
theorem kA (n:Nat) (s x:List UInt8):hasPrefix n s x=some (pre x s,()):=by
 unfold hasPrefix;rw [dW];rfl
theorem sc (n:Nat) (s x:List UInt8):trimPrefix n s x=some (bif pre x s then List.drop x.length s else s,()):=by
 unfold trimPrefix len;rw [dW]
 cases h:pre x s with
 |false=>rfl
 |true=>
  have:=pc x s h
  simp only [Option.bind_some,cond_true,ak (show ((x.length:Nat):Int)≤(s.length:Nat) by omega),Int.toNat_natCast,dA]
theorem jY (n:Nat) (s x:List UInt8):iA n s x=some (bif pre x s then List.drop x.length s else s,pre x s,()):=by
 unfold iA len;rw [dW]
 cases h:pre x s with
 |false=>rfl
 |true=>
  have:=pc x s h
  simp only [Option.bind_some,Bool.not_true,cond_false,cond_true,ak (show ((x.length:Nat):Int)≤(s.length:Nat) by omega),Int.toNat_natCast,dA]
def fV:List UInt8→List UInt8×Bool
 | []=>([],false)
 |c::r=>bif c==45 then (r,true) else bif c==43 then (r,false) else (c::r,false)
theorem Q0 (a c:UInt8) (r:List UInt8):pre [a] (c::r)=(c==a):=by simp only [pre,Bool.and_true]
theorem gN (n:Nat) (s:List UInt8):signed n s=some ((fV s).1,(fV s).2,()):=by
 unfold signed;rw [kA,sc]
 cases s with
 |nil=>rfl
 |cons c r=>
  simp only [Option.bind_some,Q0,fV,dA,ak (show (1:Int)≤len (c::r) by simp only [len,List.length_cons];omega)]
  cases c==45<;>cases c==43<;>rfl
theorem jq (n:Nat) (s:List UInt8):gL n s=some ((fV s).1,(fV s).2,()):=by
 unfold gL;rw [fO,fO]
 cases s with
 |nil=>rfl
 |cons c r=>
  simp only [Option.bind_some,Q0,fV,dA,ak (show (1:Int)≤len (c::r) by simp only [len,List.length_cons];omega),List.getElem?_cons_zero]
  cases h:c==45<;>cases c==43<;>rfl
theorem ta (s:List UInt8):(fV s).1.length≤s.length:=by
 cases s with
 |nil=>exact Nat.le_refl _
 |cons c r=>
  simp only [fV]
  cases c==45<;>cases c==43<;>simp
def BS (c:UInt8):Bool:=Nat.ble 48 c.toNat &&Nat.ble c.toNat 57
def run (s:List UInt8):List UInt8:=s.takeWhile BS
theorem pg (s:List UInt8):(run s).length≤s.length:=(List.takeWhile_prefix BS).length_le
theorem GU (s:List UInt8):∀ (m i n:Nat),i+m=s.length→s.length≤1000000→m+1≤n→zY n s (i:Int)=some ((((i+(run (s.drop i)).length:Nat):Int),()),()):=by
 intro m
 induction m with
 |zero=>
  intro i n h hs hn
  obtain ⟨n,rfl⟩:∃ k,n=k+1:=⟨n - 1,by omega⟩
  simp only [zY,len,aD (show ((s.length:Nat):Int)≤(i:Int) by omega),cond_false,Option.bind_some,List.drop_eq_nil_of_le (show s.length≤i by omega)]
  rfl
 |succ m ih=>
  intro i n h hs hn
  obtain ⟨n,rfl⟩:∃ k,n=k+1:=⟨n - 1,by omega⟩
  have hi:i<s.length:=by omega
  have w:IntKind.wrap .i64 ((i:Int)+1)=((i+1:Nat):Int):=by rw [ae]<;>omega
  have z:Go.Iv.aB (0:Int) (i:Int)=true:=ak (by omega)
  rw [List.drop_eq_getElem_cons hi]
  simp only [zY,len,az (show (i:Int)<((s.length:Nat):Int) by omega),z,cond_true,Int.toNat_natCast,List.getElem?_eq_getElem hi,Option.bind_some,w]
  generalize hc:s[i]=c
  simp only [run,List.takeWhile,BS]
  have e1:UInt8.toNat 48=48:=rfl
  have e2:UInt8.toNat 57=57:=rfl
  rw [e1,e2]
  cases h1:Nat.ble 48 c.toNat with
  |false=>simp only [cond_false,Option.bind_some,Bool.false_and];rfl
  |true=>
   simp only [cond_true,Option.bind_some,Bool.true_and]
   cases h2:Nat.ble c.toNat 57 with
   |false=>simp only [cond_false];rfl
   |true=>
    simp only [cond_true]
    rw [ih (i+1) n (by omega) hs (by omega)]
    simp only [run,List.length_cons]
    congr 4;omega
theorem mL (n:Nat) (s:List UInt8) (hs:s.length≤1000000) (hn:s.length≤n):count n s=some (((run s).length:Int),()):=by
 unfold count
 have:=GU s s.length 0 (n+1) (by omega) hs (by omega)
 rw [show (0:Int)=((0:Nat):Int) from rfl,this,List.drop_zero,Nat.zero_add]
 rfl
theorem Mz (s:List UInt8) (j:Int):∀ (m i n:Nat),i+m=s.length→s.length≤1000000→m+1≤n→zQ n s (i:Int) j=some ((s,(((i+(run (s.drop i)).length:Nat):Int),(j,()))),()):=by
 intro m
 induction m with
 |zero=>
  intro i n h hs hn
  obtain ⟨n,rfl⟩:∃ k,n=k+1:=⟨n - 1,by omega⟩
  simp only [zQ,len,aD (show ((s.length:Nat):Int)≤(i:Int) by omega),cond_false,Option.bind_some,List.drop_eq_nil_of_le (show s.length≤i by omega)]
  rfl
 |succ m ih=>
  intro i n h hs hn
  obtain ⟨n,rfl⟩:∃ k,n=k+1:=⟨n - 1,by omega⟩
  have hi:i<s.length:=by omega
  have w:IntKind.wrap .i64 ((i:Int)+1)=((i+1:Nat):Int):=by rw [ae]<;>omega
  have z:Go.Iv.aB (0:Int) (i:Int)=true:=ak (by omega)
  rw [List.drop_eq_getElem_cons hi]
  simp only [zQ,len,az (show (i:Int)<((s.length:Nat):Int) by omega),z,cond_true,Int.toNat_natCast,List.getElem?_eq_getElem hi,Option.bind_some,w]
  generalize hc:s[i]=c
  simp only [run,List.takeWhile,BS]
  have e1:UInt8.toNat 48=48:=rfl
  have e2:UInt8.toNat 57=57:=rfl
  rw [e1,e2]
  cases h1:Nat.ble 48 c.toNat with
  |false=>simp only [cond_false,Option.bind_some,Bool.false_and];rfl
  |true=>
   simp only [cond_true,Option.bind_some,Bool.true_and]
   cases h2:Nat.ble c.toNat 57 with
   |false=>simp only [cond_false];rfl
   |true=>
    simp only [cond_true]
    rw [ih (i+1) n (by omega) hs (by omega)]
    simp only [run,List.length_cons]
    congr 5;omega
theorem nV (s:List UInt8):s.take (run s).length=run s:=by
 have h:=(List.takeWhile_prefix BS (l:=s))
 exact (List.prefix_iff_eq_take.1 h).symm
theorem qb (n:Nat) (s:List UInt8) (i:Nat) (hi:i≤s.length) (hs:s.length≤1000000) (hn:s.length≤n):
  xO n s (i:Int)=some (run (s.drop i),((i+(run (s.drop i)).length:Nat):Int),()):=by
 unfold xO
 have h:=pg (s.drop i)
 rw [List.length_drop] at h
 rw [Mz s (i:Int) (s.length - i) i (n+1) (by omega) hs (by omega)]
 simp only [Option.bind_some,len,ak (show (0:Int)≤((i+(run (s.drop i)).length:Nat):Int) by omega),ak (show ((i+(run (s.drop i)).length:Nat):Int)≤((s.length:Nat):Int) by omega),
  ak (show (0:Int)≤(i:Int) by omega),Int.toNat_natCast,ak (show (i:Int)≤((i+(run (s.drop i)).length:Nat):Int) by omega),Bool.and_self,cond_true]
 rw [Nat.add_sub_cancel_left,nV]
theorem Tj (n:Nat) (c:UInt8):∀ (s:List UInt8) (n:Nat),s.length+1≤n→uk n s c=some ((s.dropWhile (· ==c),()),())
 | [],n,h=>by
  obtain ⟨n,rfl⟩:∃ k,n=k+1:=⟨n - 1,by omega⟩
  rfl
 |x::r,n,h=>by
  obtain ⟨n,rfl⟩:∃ k,n=k+1:=⟨n - 1,by omega⟩
  simp only [List.length_cons] at h
  simp only [uk,len,az (show (0:Int)<(((x::r).length:Nat):Int) by simp only [List.length_cons];omega),ak (show (1:Int)≤(((x::r).length:Nat):Int) by simp only [List.length_cons];omega),
   cond_true,List.getElem?_cons_zero,Option.bind_some,dA,List.dropWhile]
  cases x==c with
  |false=>rfl
  |true=>exact Tj n c r n (by omega)
theorem gQ (n:Nat) (s:List UInt8) (c:UInt8) (hn:s.length≤n):eJ n s c=some (s.dropWhile (· ==c),()):=by
 unfold eJ;rw [Tj 0 c s (n+1) (by omega)];rfl
def de (s:List UInt8):List UInt8:=(s.reverse.dropWhile (· ==48)).reverse
theorem ja (s:List UInt8) (x:UInt8):de (s++ [x])=bif x==48 then de s else s++ [x]:=by
 unfold de
 rw [List.reverse_append]
 simp only [List.reverse_cons,List.reverse_nil,List.nil_append,List.singleton_append,List.dropWhile]
 cases x==48 with
 |false=>simp
 |true=>rfl
theorem zV (s:List UInt8):(de s).length≤s.length:=by
 unfold de
 rw [List.length_reverse]
 have:=(List.dropWhile_suffix (· ==(48:UInt8)) (l:=s.reverse)).length_le
 rwa [List.length_reverse] at this
theorem last_cases {α:Type} (s:List α):s= []∨∃ r x,s=r++ [x]:=by
 rcases List.eq_nil_or_concat s with h |⟨r,x,h⟩
 ·exact .inl h
 ·exact .inr ⟨r,x,by rw [h,List.concat_eq_append]⟩
theorem TO:∀ (m:Nat) (s:List UInt8) (n:Nat),s.length=m→s.length≤1000000→m+1≤n→uK n s 48=some ((de s,()),()):=by
 intro m
 induction m with
 |zero=>
  intro s n h _ hn
  obtain ⟨n,rfl⟩:∃ k,n=k+1:=⟨n - 1,by omega⟩
  cases s with
  |nil=>rfl
  |cons=>cases h
 |succ m ih=>
  intro s n h hs hn
  obtain ⟨n,rfl⟩:∃ k,n=k+1:=⟨n - 1,by omega⟩
  rcases last_cases s with rfl |⟨r,x,rfl⟩
  ·cases h
  have hl:(r++ [x]).length=r.length+1:=by simp
  rw [hl] at h hs
  have w:IntKind.wrap .i64 ((((r.length+1:Nat)):Int) - 1)=(r.length:Int):=by rw [ae]<;>omega
  have hg:(r++ [x])[r.length]? =some x:=by simp
  simp only [uK,len,hl,w,az (show (0:Int)<((r.length+1:Nat):Int) by omega),ak (show (0:Int)≤(r.length:Int) by omega),ak (show (r.length:Int)≤((r.length+1:Nat):Int) by omega),cond_true,Int.toNat_natCast,hg,Option.bind_some,Bool.and_self,Nat.sub_zero,List.drop_zero,
   ja,List.take_left]
  cases x==48 with
  |false=>rfl
  |true=>exact ih r n (by omega) (by omega) (by omega)
theorem mj (n:Nat) (s:List UInt8) (hs:s.length≤1000000) (hn:s.length≤n):dn n s 48=some (de s,()):=by
 unfold dn;rw [TO _ s (n+1) rfl hs (by omega)];rfl
end Go.Proofs.YtnddpppljnjmcaaGreatDoor.V
/- Law 5: numbers without noughts at their ends. -/
namespace Go.Proofs.YtnddpppljnjmcaaGreatDoor.V
open Go Go.Iv Go.Gv
set_option linter.unusedSimpArgs false
set_option linter.unusedVariables false
abbrev BL:=Bool×(List UInt8×(Int×Int))
def GY (b:Bool):BL:=(b,([48],(0,0)))
def tl (d:List UInt8):List UInt8:=d.dropWhile (· ==48)
def norm (b:Bool) (d:List UInt8) (e:Int):BL:=
 bif (de (tl d)).isEmpty then GY b else (b,(de (tl d),(e+(len (tl d) - len (de (tl d))),0)))
theorem fe (l:List UInt8):(l==([]:List UInt8))=l.isEmpty:=by cases l<;>rfl
theorem AO (d:List UInt8):(tl d).length≤d.length:=(List.dropWhile_suffix (· ==(48:UInt8)) (l:=d)).length_le
theorem RO {α:Type} (b:Bool) (f:Bool→Option α):(Option.bind (bif b then some Bool.true else some Bool.false) f)=f b:=by cases b<;>rfl
theorem uV (n:Nat) (b:Bool) (d:List UInt8) (e:Int) (h1: -1000000000000≤e) (h2:e≤1000000000000) (hs:d.length≤1000000) (hn:d.length≤n):
  whole n b d e=some (norm b d e,()):=by
 have l1:=AO d
 have l2:=zV (tl d)
 unfold whole
 simp only [RO,fe]
 cases h:d.isEmpty with
 |true=>
  have:d= []:=by cases d with
   |nil=>rfl
   |cons=>cases h
  subst this
  rfl
 |false=>
  simp only [cond_false]
  rw [gQ n d 48 hn]
  simp only [Option.bind_some]
  show (bif (tl d).isEmpty then _ else _)=_
  change (bif (tl d).isEmpty then (bif (tl d).isEmpty then some (GY b,()) else some ((b,(tl d,(_,0))),())) else Option.bind (dn n (tl d) 48) _)=_
  cases h3:(tl d).isEmpty with
  |true=>
   have:tl d= []:=by cases h4:tl d with
    |nil=>rfl
    |cons=>rw [h4] at h3;cases h3
   simp only [cond_true]
   unfold norm
   rw [this];rfl
  |false=>
   simp only [cond_false]
   rw [mj n (tl d) (by omega) (by omega)]
   simp only [Option.bind_some]
   unfold norm
   have w1:IntKind.wrap .i64 (e+len (tl d))=e+len (tl d):=by unfold len;rw [ae]<;>omega
   have w2:IntKind.wrap .i64 (e+len (tl d) - len (de (tl d)))=e+(len (tl d) - len (de (tl d))):=by unfold len;rw [ae]<;>omega
   have hd:List.dropWhile (fun x=>x==48) d=tl d:=rfl
   rw [hd,w1,w2]
   cases (de (tl d)).isEmpty<;>rfl
def strip:List UInt8→List UInt8
 | []=> []
 | [x]=> [x]
 |x::y::r=>bif x==48 then strip (y::r) else x::y::r
theorem Hd (a:Bool) (e:Int) (c0:Bool) (c1:List UInt8) (c2 c3:Int):∀ (s:List UInt8) (n:Nat),s.length+1≤n→
  Dv n a s e c0 c1 c2 c3=some ((a,(strip s,(e,((),())))),((c0,(c1,(c2,(c3,())))),())):=by
 intro s
 induction s with
 |nil=>
  intro n h
  obtain ⟨n,rfl⟩:∃ k,n=k+1:=⟨n - 1,by omega⟩
  rfl
 |cons x r ih=>
  intro n h
  obtain ⟨n,rfl⟩:∃ k,n=k+1:=⟨n - 1,by omega⟩
  cases r with
  |nil=>rfl
  |cons y r=>
   simp only [List.length_cons] at h
   have hl:(1:Int)<len (x::y::r):=by simp only [len,List.length_cons];omega
   simp only [Dv,az hl,ak (Int.le_of_lt hl),cond_true,List.getElem?_cons_zero,Option.bind_some,dA,strip]
   cases x==48 with
   |false=>rfl
   |true=>exact ih n (by simp only [List.length_cons];omega)
theorem EX:∀ (s:List UInt8),((tl s).isEmpty=true→strip s= []∨strip s= [48])∧((tl s).isEmpty=false→strip s=tl s)
 | []=>⟨fun _=> .inl rfl,fun h=>by cases h⟩
 | [x]=>by
  unfold tl strip
  simp only [List.dropWhile]
  cases h:x==48 with
  |false=>exact ⟨fun h=>(by cases h),fun _=>rfl⟩
  |true=>exact ⟨fun _=> .inr (by rw [beq_iff_eq.1 h]),fun h=>by cases h⟩
 |x::y::r=>by
  have ih:=EX (y::r)
  unfold tl at ih ⊢
  rw [List.dropWhile,strip]
  cases h:x==48 with
  |false=>exact ⟨fun h=>(by cases h),fun _=>rfl⟩
  |true=>exact ih
theorem I4 (s:List UInt8) (x:UInt8) (r:List UInt8) (h:tl s=x::r):(x==48)=false:=by
 induction s with
 |nil=>cases h
 |cons y s ih=>
  unfold tl at h ih
  rw [List.dropWhile] at h
  cases hy:y==48 with
  |true=>rw [hy] at h;exact ih h
  |false=>
   rw [hy] at h
   injection h with h1 h2
   rw [←h1];exact hy
theorem wQ (x:UInt8) (r:List UInt8) (h:(x==48)=false):(de (x::r)).isEmpty=false:=by
 unfold de
 rw [List.reverse_cons,List.dropWhile_append]
 cases h2:(r.reverse.dropWhile (· ==48)).isEmpty with
 |true=>
  rw [if_pos rfl]
  simp only [List.dropWhile,h]
  rfl
 |false=>
  rw [if_neg (by decide)]
  simp
theorem Lh (a:Bool) (c0:Bool) (c1:List UInt8) (c2 c3:Int):∀ (m:Nat) (s:List UInt8) (e:Int) (n:Nat),s.length=m→(de s).isEmpty=false→s.length≤1000000→ -10000000000000≤e→e+s.length≤10000000000000→m+1≤n→
  Fj n a s e c0 c1 c2 c3=some ((a,(de s,(e+(len s - len (de s)),((),())))),((c0,(c1,(c2,(c3,())))),())):=by
 intro m
 induction m with
 |zero=>
  intro s e n h h2
  cases s with
  |nil=>cases h2
  |cons=>cases h
 |succ m ih=>
  intro s e n h h2 hs he1 he2 hn
  obtain ⟨n,rfl⟩:∃ k,n=k+1:=⟨n - 1,by omega⟩
  rcases last_cases s with rfl |⟨r,x,rfl⟩
  ·cases h
  have hl:(r++ [x]).length=r.length+1:=by simp
  rw [hl] at h hs he2
  have w:IntKind.wrap .i64 ((((r.length+1:Nat)):Int) - 1)=(r.length:Int):=by rw [ae]<;>omega
  have w2:IntKind.wrap .i64 (e+1)=e+1:=by rw [ae]<;>omega
  have hg:(r++ [x])[r.length]? =some x:=by simp
  rw [ja] at h2
  simp only [Fj,len,hl,w,w2,ak (show (0:Int)≤(r.length:Int) by omega),ak (show (r.length:Int)≤((r.length+1:Nat):Int) by omega),cond_true,Int.toNat_natCast,hg,Option.bind_some,Bool.and_self,Nat.sub_zero,List.drop_zero,
   ja,List.take_left]
  cases hx:x==48 with
  |false=>
   simp only [cond_false,hl]
   congr 6
   omega
  |true=>
   rw [hx] at h2
   simp only [cond_true]
   rw [ih r (e+1) n (by omega) h2 (by omega) (by omega) (by omega) (by omega)]
   have q:e+1+(len r - len (de r))=e+(((r.length+1:Nat):Int) - ((de r).length:Nat)):=by unfold len;omega
   rw [q]
theorem mc (n:Nat) (b:Bool) (d:List UInt8) (e:Int) (h1: -1000000000000≤e) (h2:e≤1000000000000) (hs:d.length≤1000000) (hn:d.length≤n):
  dy n b d e=some (norm b d e,()):=by
 have l1:=AO d
 unfold dy
 rw [Hd b e _ _ _ _ d (n+1) (by omega)]
 simp only [Option.bind_some]
 obtain ⟨k1,k2⟩:=EX d
 cases h:(tl d).isEmpty with
 |true=>
  have h0:tl d= []:=by cases h4:tl d with
   |nil=>rfl
   |cons=>rw [h4] at h;cases h
  have hz:norm b d e=GY b:=by unfold norm;rw [h0];rfl
  rw [hz]
  rcases k1 h with k |k<;>rw [k]<;>rfl
 |false=>
  rw [k2 h]
  cases h4:tl d with
  |nil=>rw [h4] at h;cases h
  |cons x r=>
   have hx:=I4 d x r h4
   have hr:=wQ x r hx
   have e1:((x::r)==([48]:List UInt8))=false:=by
    show ((x==48) &&_)=false
    rw [hx];rfl
   have e2:((x::r)==([]:List UInt8))=false:=rfl
   rw [h4] at l1
   simp only [e1,e2,cond_false,Option.bind_some]
   rw [Lh b _ _ _ _ _ (x::r) e (n+1) rfl hr (by omega) (by omega) (by omega) (by omega)]
   simp only [Option.bind_some]
   unfold norm
   rw [h4,hr]
   rfl
end Go.Proofs.YtnddpppljnjmcaaGreatDoor.V
/- Law 5: digits times a number. -/
namespace Go.Proofs.YtnddpppljnjmcaaGreatDoor.V
open Go Go.Iv Go.Gv
set_option linter.unusedSimpArgs false
set_option linter.unusedVariables false
def hv (c:UInt8):Int:=if 48≤ub c∧ub c≤57 then ub c - 48 else if 97≤ub c∧ub c≤102 then ub c - 87 else if 65≤ub c∧ub c≤70 then ub c - 55 else -1
theorem gj (n:Nat) (c:UInt8):hex n (IntKind.wrap .i64 (ub c))=some (hv c,()):=by
 have hb:=gV c
 rw [fR]
 unfold hex hv
 generalize ub c=x at*
 have e:(bif aB 48 x then some (aB x 57) else some false)=some (decide (48≤x∧x≤57)):=by
  rw [db,db]
  by_cases h1:48≤x<;>by_cases h2:x≤57<;>simp [h1,h2]
 have e2:(bif aB 97 x then some (aB x 102) else some false)=some (decide (97≤x∧x≤102)):=by
  rw [db,db]
  by_cases h1:97≤x<;>by_cases h2:x≤102<;>simp [h1,h2]
 have e3:(bif aB 65 x then some (aB x 70) else some false)=some (decide (65≤x∧x≤70)):=by
  rw [db,db]
  by_cases h1:65≤x<;>by_cases h2:x≤70<;>simp [h1,h2]
 rw [e,e2,e3]
 have w1:IntKind.wrap .i64 (x - 48)=x - 48:=by rw [ae]<;>omega
 have w2:IntKind.wrap .i64 (IntKind.wrap .i64 (x - 97)+10)=x - 87:=by rw [ae (x:=x - 97),ae]<;>omega
 have w3:IntKind.wrap .i64 (IntKind.wrap .i64 (x - 65)+10)=x - 55:=by rw [ae (x:=x - 65),ae]<;>omega
 rw [w1,w2,w3]
 by_cases h1:48≤x∧x≤57
 ·rw [if_pos h1,decide_eq_true h1];rfl
 by_cases h2:97≤x∧x≤102
 ·rw [if_neg h1,decide_eq_false h1,if_pos h2,decide_eq_true h2];rfl
 by_cases h3:65≤x∧x≤70
 ·rw [if_neg h1,decide_eq_false h1,if_neg h2,decide_eq_false h2,if_pos h3,decide_eq_true h3];rfl
 rw [if_neg h1,decide_eq_false h1,if_neg h2,decide_eq_false h2,if_neg h3,decide_eq_false h3];rfl
theorem lg (n:Nat) (c:UInt8):K6 n (IntKind.wrap .i64 (ub c))=some (hv c,()):=gj n c
theorem QQ (c:UInt8):(0≤hv c∧hv c<10)↔BS c=true:=by
 have e:BS c=true↔(48≤ub c∧ub c≤57):=by
  unfold BS ub
  rw [Bool.and_eq_true,Nat.ble_eq,Nat.ble_eq];omega
 rw [e]
 unfold hv
 split
 ·omega
 split
 ·omega
 split<;>omega
theorem RV (c:UInt8) (h:BS c=true):hv c=ub c - 48:=by
 have e:(48≤ub c∧ub c≤57):=by
  unfold BS at h;unfold ub
  rw [Bool.and_eq_true,Nat.ble_eq,Nat.ble_eq] at h;omega
 unfold hv;rw [if_pos e]
def Dg (l:List Int):Prop:=∀ x,x∈l→0≤x∧x≤9
theorem Dg.nil:Dg []:=fun x h=>by cases h
theorem Dg.head {x:Int} {r:List Int} (h:Dg (x::r)):0≤x∧x≤9:=h x (.head _)
theorem Dg.tail {x:Int} {r:List Int} (h:Dg (x::r)):Dg r:=fun y hy=>h y (.tail _ hy)
theorem Dg.cons {x:Int} {r:List Int} (h1:0≤x∧x≤9) (h:Dg r):Dg (x::r):=fun y hy=>by
 cases hy with
 |head=>exact h1
 |tail _ hy=>exact h y hy
theorem Dg.app {a b:List Int} (h1:Dg a) (h2:Dg b):Dg (a++b):=fun y hy=>by
 rcases List.mem_append.1 hy with h |h
 ·exact h1 y h
 ·exact h2 y h
theorem Dg.drop {a:List Int} (h:Dg a) (i:Nat):Dg (a.drop i):=fun y hy=>h y (List.mem_of_mem_drop hy)
def kr (k:Int):List Int→Int→List Int×Int
 | [],m=>([],m)
 |x::r,m=>(((m+x*k)%10)::(kr k r ((m+x*k) / 10)).1,(kr k r ((m+x*k) / 10)).2)
def carry (m:Int):List Int:=if m=0 then [] else if m<10 then [m%10] else [m%10,m / 10%10]
def mul (k:Int) (l:List Int) (m:Int):List Int:=(kr k l m).1++carry (kr k l m).2
theorem AP {x k:Int} (h1:0≤x∧x≤9) (h2:0≤k∧k≤16):0≤x*k∧x*k≤144:=by
 refine ⟨Int.mul_nonneg h1.1 h2.1,?_⟩
 have:=Int.mul_le_mul h1.2 h2.2 h2.1 (by omega)
 omega
theorem Bl (k:Int) (hk:0≤k∧k≤16):∀ (l:List Int) (m:Int),Dg l→0≤m∧m≤15→Dg (kr k l m).1∧(0≤(kr k l m).2∧(kr k l m).2≤15)∧(kr k l m).1.length=l.length
 | [],m,_,hm=>⟨Dg.nil,hm,rfl⟩
 |x::r,m,hl,hm=>by
  have hp:=AP hl.head hk
  obtain ⟨i1,i2,i3⟩:=Bl k hk r ((m+x*k) / 10) hl.tail (by omega)
  exact ⟨Dg.cons (by omega) i1,i2,by simp only [kr,List.length_cons,i3]⟩
theorem LU (m:Int) (hm:0≤m∧m≤15):Dg (carry m)∧(carry m).length≤2:=by
 unfold carry
 split
 ·exact ⟨Dg.nil,by simp⟩
 split
 ·exact ⟨Dg.cons (by omega) Dg.nil,by simp⟩
 ·exact ⟨Dg.cons (by omega) (Dg.cons (by omega) Dg.nil),by simp⟩
theorem Gb (k:Int) (hk:0≤k∧k≤16) (l:List Int) (m:Int) (hl:Dg l) (hm:0≤m∧m≤15):Dg (mul k l m)∧(mul k l m).length≤l.length+2:=by
 obtain ⟨i1,i2,i3⟩:=Bl k hk l m hl hm
 obtain ⟨c1,c2⟩:=LU _ i2
 refine ⟨i1.app c1,?_⟩
 unfold mul
 rw [List.length_append];omega
theorem Gh (m:Int) (hm:0≤m∧m≤15) (acc:List Int) (ha:acc.length≤100000) (n:Nat) (hn:3≤n):kf n m acc=some ((acc++carry m,()),()):=by
 have st:∀ (m:Int) (acc:List Int) (n:Nat),0<m→m≤15→acc.length≤100005→kf (n+1) m acc=kf n (m / 10) (acc++ [m%10]):=fun m acc n h1 h2 ha=>by
  have w:IntKind.wrap .i64 (Int.tdiv m 10)=m / 10:=by rw [Int.tdiv_eq_ediv_of_nonneg (by omega),ae]<;>omega
  simp only [kf,az h1,cond_true,List.length_singleton,List.length_cons,List.length_nil,dM (show (acc.length+(0+1))*9≤1000000 by omega),w,Int.tmod_eq_emod_of_nonneg (show 0≤m by omega)]
 have fin:∀ (acc:List Int) (n:Nat),kf (n+1) 0 acc=some ((acc,()),()):=fun acc n=>rfl
 obtain ⟨n,rfl⟩:∃ k,n=k+3:=⟨n - 3,by omega⟩
 unfold carry
 by_cases h0:m=0
 ·subst h0
  rw [if_pos rfl,fin,List.append_nil]
 rw [if_neg h0,st m acc (n+2) (by omega) (by omega) (by omega)]
 by_cases h1:m<10
 ·rw [if_pos h1,show m / 10=0 by omega,fin]
 ·rw [if_neg h1,st (m / 10) _ (n+1) (by omega) (by omega) (by simp;omega),show m / 10 / 10=0 by omega,fin,List.append_assoc]
  rfl
theorem J2 (k:Int) (hk:0≤k∧k≤16) (l:List Int) (hl:Dg l) (hs:l.length≤90000):∀ (d i n:Nat) (m:Int) (acc:List Int),i+d=l.length→acc.length=i→0≤m∧m≤15→d+1≤n→
  qf n l k m acc (i:Int)=some (((kr k (l.drop i) m).2,(acc++(kr k (l.drop i) m).1,())),()):=by
 intro d
 induction d with
 |zero=>
  intro i n m acc h ha hm hn
  obtain ⟨n,rfl⟩:∃ k,n=k+1:=⟨n - 1,by omega⟩
  simp only [qf,len,aD (show ((l.length:Nat):Int)≤(i:Int) by omega),cond_false,List.drop_eq_nil_of_le (show l.length≤i by omega),kr,List.append_nil]
 |succ d ih=>
  intro i n m acc h ha hm hn
  obtain ⟨n,rfl⟩:∃ k,n=k+1:=⟨n - 1,by omega⟩
  have hi:i<l.length:=by omega
  have w:IntKind.wrap .i64 ((i:Int)+1)=((i+1:Nat):Int):=by rw [ae]<;>omega
  have hp:=AP (hl _ (List.getElem_mem hi)) hk
  have w1:IntKind.wrap .i64 (l[i]*k)=l[i]*k:=by rw [ae]<;>omega
  have w2:IntKind.wrap .i64 (m+l[i]*k)=m+l[i]*k:=by rw [ae]<;>omega
  have w3:IntKind.wrap .i64 ((m+l[i]*k) / 10)=(m+l[i]*k) / 10:=by rw [ae]<;>omega
  have q0:0≤m+l[i]*k:=by omega
  rw [List.drop_eq_getElem_cons hi]
  simp only [qf,len,az (show (i:Int)<((l.length:Nat):Int) by omega),ak (show (0:Int)≤(i:Int) by omega),cond_true,Int.toNat_natCast,List.getElem?_eq_getElem hi,Option.bind_some,w,w1,w2,
   Int.tdiv_eq_ediv_of_nonneg q0,Int.tmod_eq_emod_of_nonneg q0,w3,List.length_singleton,List.length_cons,List.length_nil,dM (show (acc.length+(0+1))*9≤1000000 by omega),kr]
  rw [ih (i+1) n _ _ (by omega) (by simp;omega) (by omega) (by omega),List.append_assoc]
  rfl
theorem E5 (n:Nat) (l:List Int) (k m:Int) (hk:0≤k∧k≤16) (hl:Dg l) (hm:0≤m∧m≤15) (hs:l.length≤90000) (hn:l.length+3≤n):
  Bp n l k m=some (bif (mul k l m).isEmpty then [0] else mul k l m,()):=by
 obtain ⟨i1,i2,i3⟩:=Bl k hk l m hl hm
 unfold Bp
 have:=J2 k hk l hl hs l.length 0 (n+1) m [] (by omega) rfl hm (by omega)
 rw [List.drop_zero,List.nil_append] at this
 rw [show (0:Int)=((0:Nat):Int) from rfl,this]
 simp only [Option.bind_some]
 rw [Gh _ i2 _ (by omega) (n+1) (by omega)]
 simp only [Option.bind_some]
 show (bif len (mul k l m)==0 then some ([0],()) else some (mul k l m,()))=_
 cases mul k l m with
 |nil=>rfl
 |cons x r=>
  have:(len (x::r)==0)=false:=by rw [beq_eq_false_iff_ne];simp only [len,List.length_cons];omega
  rw [this];rfl
theorem Re (k:Int) (l:List Int) (m:Int) (hm:0≤m∧m≤15) (hs:l.length≤90000) (acc:List Int) (ha:acc.length≤100000) (i:Nat) (hi:l.length≤i) (hi2:i≤100000) (n:Nat) (hn:3≤n):
  jG n l k m acc (i:Int)=some ((acc++carry m,()),()):=by
 have st:∀ (m:Int) (acc:List Int) (i n:Nat),0<m→m≤15→acc.length≤100005→l.length≤i→i≤100005→jG (n+1) l k m acc (i:Int)=jG n l k (m / 10) (acc++ [m%10]) ((i+1:Nat):Int):=fun m acc i n h1 h2 ha hi hi2=>by
  have w:IntKind.wrap .i64 ((i:Int)+1)=((i+1:Nat):Int):=by rw [ae]<;>omega
  have w0:IntKind.wrap .i64 (m+IntKind.wrap .i64 (0*k))=m:=by rw [Int.zero_mul,ae (x:=0),ae]<;>omega
  have w1:IntKind.wrap .i64 (Int.tdiv m 10)=m / 10:=by rw [Int.tdiv_eq_ediv_of_nonneg (by omega),ae]<;>omega
  simp only [jG,len,aD (show ((l.length:Nat):Int)≤(i:Int) by omega),az h1,cond_true,cond_false,Option.bind_some,w0,List.length_singleton,List.length_cons,List.length_nil,dM (show (acc.length+(0+1))*9≤1000000 by omega),w,w1,Int.tmod_eq_emod_of_nonneg (show 0≤m by omega)]
 have fin:∀ (acc:List Int) (i n:Nat),l.length≤i→jG (n+1) l k 0 acc (i:Int)=some ((acc,()),()):=fun acc i n hi=>by
  simp only [jG,len,aD (show ((l.length:Nat):Int)≤(i:Int) by omega),aD (Int.le_refl 0),cond_false,Option.bind_some]
 obtain ⟨n,rfl⟩:∃ k,n=k+3:=⟨n - 3,by omega⟩
 unfold carry
 by_cases h0:m=0
 ·subst h0
  rw [if_pos rfl,fin _ _ _ hi,List.append_nil]
 rw [if_neg h0,st m acc i (n+2) (by omega) (by omega) (by omega) hi (by omega)]
 by_cases h1:m<10
 ·rw [if_pos h1,show m / 10=0 by omega,fin _ _ _ (by omega)]
 ·rw [if_neg h1,st (m / 10) _ (i+1) (n+1) (by omega) (by omega) (by simp;omega) (by omega) (by omega),show m / 10 / 10=0 by omega,fin _ _ _ (by omega),List.append_assoc]
  rfl
theorem Kr (k:Int) (hk:0≤k∧k≤16) (l:List Int) (hl:Dg l) (hs:l.length≤90000):∀ (d i n:Nat) (m:Int) (acc:List Int),i+d=l.length→acc.length=i→0≤m∧m≤15→d+3≤n→
  jG n l k m acc (i:Int)=some ((acc++((kr k (l.drop i) m).1++carry (kr k (l.drop i) m).2),()),()):=by
 intro d
 induction d with
 |zero=>
  intro i n m acc h ha hm hn
  rw [List.drop_eq_nil_of_le (show l.length≤i by omega)]
  exact Re k l m hm hs acc (by omega) i (by omega) (by omega) n (by omega)
 |succ d ih=>
  intro i n m acc h ha hm hn
  obtain ⟨n,rfl⟩:∃ k,n=k+1:=⟨n - 1,by omega⟩
  have hi:i<l.length:=by omega
  have w:IntKind.wrap .i64 ((i:Int)+1)=((i+1:Nat):Int):=by rw [ae]<;>omega
  have hp:=AP (hl _ (List.getElem_mem hi)) hk
  have w1:IntKind.wrap .i64 (l[i]*k)=l[i]*k:=by rw [ae]<;>omega
  have w2:IntKind.wrap .i64 (m+l[i]*k)=m+l[i]*k:=by rw [ae]<;>omega
  have w3:IntKind.wrap .i64 ((m+l[i]*k) / 10)=(m+l[i]*k) / 10:=by rw [ae]<;>omega
  have q0:0≤m+l[i]*k:=by omega
  rw [List.drop_eq_getElem_cons hi]
  simp only [jG,len,az (show (i:Int)<((l.length:Nat):Int) by omega),ak (show (0:Int)≤(i:Int) by omega),cond_true,Int.toNat_natCast,List.getElem?_eq_getElem hi,Option.bind_some,w,w1,w2,
   Int.tdiv_eq_ediv_of_nonneg q0,Int.tmod_eq_emod_of_nonneg q0,w3,List.length_singleton,List.length_cons,List.length_nil,dM (show (acc.length+(0+1))*9≤1000000 by omega),kr]
  rw [ih (i+1) n _ _ (by omega) (by simp;omega) (by omega) (by omega),List.append_assoc]
  rfl
theorem Gq (n:Nat) (l:List Int) (k m:Int) (hk:0≤k∧k≤16) (hl:Dg l) (hm:0≤m∧m≤15) (hs:l.length≤90000) (hn:l.length+3≤n):
  times n l k m=some (mul k l m,()):=by
 unfold times
 have:=Kr k hk l hl hs l.length 0 n m [] (by omega) rfl hm (by omega)
 rw [List.drop_zero,List.nil_append] at this
 rw [show (0:Int)=((0:Nat):Int) from rfl,this]
 rfl
end Go.Proofs.YtnddpppljnjmcaaGreatDoor.V
/- Law 5: digits as a text. -/
namespace Go.Proofs.YtnddpppljnjmcaaGreatDoor.V
open Go Go.Iv Go.Gv
set_option linter.unusedSimpArgs false
set_option linter.unusedVariables false
def ch (x:Int):UInt8:=UInt8.ofNat (Int.toNat (IntKind.wrap .u8 (IntKind.wrap .i64 (48+x))))
theorem LH (x:Int) (h:0≤x∧x≤9):(ch x==48)=(x==0):=by
 have:x=0∨x=1∨x=2∨x=3∨x=4∨x=5∨x=6∨x=7∨x=8∨x=9:=by omega
 rcases this with rfl |rfl |rfl |rfl |rfl |rfl |rfl |rfl |rfl |rfl<;>decide
theorem PC:ch 0=48:=by decide
theorem iG {α:Type} (l:List α) (i:Nat) (h:i<l.length):(l.take (i+1)).reverse=l[i]::(l.take i).reverse:=by
 rw [List.take_succ_eq_append_getElem h,List.reverse_append];rfl
def tx (l:List Int):List UInt8:=bif (tl (l.reverse.map ch)).isEmpty then [48] else tl (l.reverse.map ch)
theorem Jv (l:List Int) (hs:l.length≤100000):∀ (i n:Nat) (acc:List UInt8),i≤l.length→acc.length+i≤100000→i+1≤n→
  zk n l ((i:Int) - 1) acc=some (((),()),(((),(acc++(l.take i).reverse.map ch,())),())):=by
 intro i
 induction i with
 |zero=>
  intro n acc h ha hn
  obtain ⟨n,rfl⟩:∃ k,n=k+1:=⟨n - 1,by omega⟩
  simp only [zk,gO (show ((0:Nat):Int) - 1<0 by omega),cond_false,List.take_zero,List.reverse_nil,List.map_nil,List.append_nil]
 |succ i ih=>
  intro n acc h ha hn
  obtain ⟨n,rfl⟩:∃ k,n=k+1:=⟨n - 1,by omega⟩
  have e:((i+1:Nat):Int) - 1=(i:Int):=by omega
  have w:IntKind.wrap .i64 ((i:Int) - 1)=(i:Int) - 1:=by rw [ae]<;>omega
  rw [e,iG l i (by omega)]
  simp only [zk,ak (show (0:Int)≤(i:Int) by omega),cond_true,Int.toNat_natCast,List.getElem?_eq_getElem (show i<l.length by omega),Option.bind_some,w,List.length_singleton,List.length_cons,List.length_nil,dM (show (acc.length+(0+1))*2≤1000000 by omega)]
  rw [ih n _ (by omega) (by simp;omega) (by omega),List.map_cons,List.append_assoc]
  rfl
theorem isEmpty_eq {α:Type} {l:List α} (h:l.isEmpty=true):l= []:=by
 cases l with
 |nil=>rfl
 |cons=>cases h
theorem zl (n:Nat) (l:List Int) (hs:l.length≤90000) (hn:l.length+1≤n):text n l=some (tx l,()):=by
 unfold text
 rcases last_cases l with rfl |⟨r,x,rfl⟩
 ·rfl
 have hl:(r++ [x]).length=r.length+1:=by simp
 have hg:(r++ [x])[r.length]? =some x:=by simp
 rw [hl] at hs hn
 have w:IntKind.wrap .i64 (((r.length+1:Nat):Int) - 1)=(r.length:Int):=by rw [ae]<;>omega
 have w2:IntKind.wrap .i64 ((r.length:Int) - 1)=(r.length:Int) - 1:=by rw [ae]<;>omega
 simp only [len,hl,w,w2,ak (show (0:Int)≤(r.length:Int) by omega),cond_true,Int.toNat_natCast,hg,Option.bind_some]
 rw [Jv (r++ [x]) (by omega) r.length n _ (by omega) (by simp;omega) (by omega)]
 have e:List.take r.length (r++ [x])=r:=by simp
 rw [e]
 have e2:(UInt8.ofNat (Int.toNat (IntKind.wrap IntKind.u8 (IntKind.wrap IntKind.i64 ((48:Int)+x)))))::([]:List UInt8)++(r.reverse.map ch)=((r++ [x]).reverse).map ch:=by
  rw [List.reverse_append];rfl
 rw [e2]
 unfold tx
 have hlen:(((r++ [x]).reverse).map ch).length=r.length+1:=by simp
 generalize ((r++ [x]).reverse).map ch=c at*
 have hc:c.isEmpty=false:=by
  cases c with
  |nil=>simp at hlen
  |cons=>rfl
 have hc2:List.take c.length c=c:=List.take_length
 have hb:(c==([]:List UInt8))=false:=by rw [fe];exact hc
 simp only [Option.bind_some,hc,cond_false,ak (Int.le_refl _),ak (show ((c.length:Nat):Int)≤1099511627776 by omega),Bool.and_self,cond_true,Int.toNat_natCast,hc2,hb]
 rw [gQ n c 48 (by omega)]
 simp only [Option.bind_some]
 show (bif !(tl c==([]:List UInt8)) then some (tl c,()) else some ([48],()))=some (bif (tl c).isEmpty then [48] else tl c,())
 rw [fe]
 cases (tl c).isEmpty<;>rfl
def du:List Int→List Int
 | []=> []
 | [x]=> [x]
 |x::y::r=>bif x==0 then du (y::r) else x::y::r
theorem wV:∀ (r:List Int),∃ p,r=p++du r
 | []=>⟨[],rfl⟩
 | [x]=>⟨[],rfl⟩
 |x::y::r=>by
  rw [du]
  cases x==0 with
  |false=>exact ⟨[],rfl⟩
  |true=>
   obtain ⟨p,hp⟩:=wV (y::r)
   exact ⟨x::p,congrArg (x::·) hp⟩
theorem yG:∀ (r:List Int),Dg r→r≠ []→(du r).map ch=bif (tl (r.map ch)).isEmpty then [48] else tl (r.map ch)
 | [],_,h=>absurd rfl h
 | [x],hd,_=>by
  unfold tl
  simp only [du,List.map_cons,List.map_nil,List.dropWhile,LH x hd.head]
  cases h:x==0 with
  |false=>rfl
  |true=>rw [beq_iff_eq.1 h,PC];rfl
 |x::y::r,hd,_=>by
  have ih:=yG (y::r) hd.tail (by simp)
  unfold tl at ih ⊢
  rw [du,List.map_cons,List.dropWhile,LH x hd.head]
  cases x==0 with
  |false=>rfl
  |true=>exact ih
theorem TK (l:List Int) (hs:l.length≤100000):∀ (i n:Nat),i≤l.length→i+1≤n→p8 n l (i:Int)=some ((l,(((du (l.take i).reverse).length:Int),())),()):=by
 intro i
 induction i with
 |zero=>
  intro n h hn
  obtain ⟨n,rfl⟩:∃ k,n=k+1:=⟨n - 1,by omega⟩
  rfl
 |succ i ih=>
  intro n h hn
  obtain ⟨n,rfl⟩:∃ k,n=k+1:=⟨n - 1,by omega⟩
  have w:IntKind.wrap .i64 (((i+1:Nat):Int) - 1)=(i:Int):=by rw [ae]<;>omega
  rw [iG l i (by omega)]
  cases i with
  |zero=>
   simp only [p8,aD (show ((0+1:Nat):Int)≤1 by omega),cond_false,Option.bind_some]
   rfl
  |succ i=>
   rw [iG l i (by omega)] at ih ⊢
   simp only [p8,az (show (1:Int)<((i+1+1:Nat):Int) by omega),w,ak (show (0:Int)≤((i+1:Nat):Int) by omega),cond_true,Int.toNat_natCast,List.getElem?_eq_getElem (show i+1<l.length by omega),Option.bind_some,du]
   cases l[i+1]==0 with
   |true=>exact ih n (by omega) (by omega)
   |false=>
    simp only [cond_false,List.length_cons,List.length_reverse,List.length_take]
    congr 5
    omega
theorem I6 {α:Type} (a v:α) (X:List α):∀ (j:Nat),List.set (List.replicate (j+1) a++X) j v=List.replicate j a++v::X
 |0=>rfl
 |j+1=>by
  rw [List.replicate_succ,List.cons_append,List.set_cons_succ,I6 a v X j,List.replicate_succ,List.cons_append]
theorem Tu (l:List Int) (k:Nat) (hk:k≤l.length) (hs:l.length≤100000):∀ (d i n:Nat),i+d=k→d+1≤n→
  pN n l (k:Int) (List.replicate d 0++(l.take i).reverse.map ch) (i:Int)=some (((l.take k).reverse.map ch,()),()):=by
 intro d
 induction d with
 |zero=>
  intro i n h hn
  obtain ⟨n,rfl⟩:∃ k,n=k+1:=⟨n - 1,by omega⟩
  obtain rfl:i=k:=by omega
  simp only [pN,aD (Int.le_refl _),cond_false]
  rfl
 |succ d ih=>
  intro i n h hn
  obtain ⟨n,rfl⟩:∃ k,n=k+1:=⟨n - 1,by omega⟩
  have hi:i<l.length:=by omega
  have w:IntKind.wrap .i64 (IntKind.wrap .i64 ((k:Int) - 1) - (i:Int))=(d:Int):=by rw [ae (x:=(k:Int) - 1),ae]<;>omega
  have w2:IntKind.wrap .i64 ((i:Int)+1)=((i+1:Nat):Int):=by rw [ae]<;>omega
  have hl:(List.replicate (d+1) (0:UInt8)++(l.take i).reverse.map ch).length=k:=by simp;omega
  have hg:d<(List.replicate (d+1) (0:UInt8)++(l.take i).reverse.map ch).length:=by rw [hl];omega
  simp only [pN,az (show (i:Int)<(k:Int) by omega),ak (show (0:Int)≤(i:Int) by omega),cond_true,Int.toNat_natCast,List.getElem?_eq_getElem hi,Option.bind_some,w,w2,ak (show (0:Int)≤(d:Int) by omega),len,hl,az (show (d:Int)<(k:Int) by omega),Bool.and_self,
   List.getElem?_eq_getElem hg,I6]
  have:=ih (i+1) n (by omega) (by omega)
  rw [iG l i hi] at this
  exact this
theorem lU (n:Nat) (l:List Int) (hd:Dg l) (h0:l≠ []) (hs:l.length≤90000) (hn:l.length≤n):kR n l=some (tx l,()):=by
 obtain ⟨p,hp⟩:=wV l.reverse
 have hr:Dg l.reverse:=fun x hx=>hd x (List.mem_reverse.1 hx)
 have hc:=yG l.reverse hr (by simp [h0])
 have hl:l=(du l.reverse).reverse++p.reverse:=by rw [←List.reverse_append,←hp,List.reverse_reverse]
 have hk:(du l.reverse).length≤l.length:=by
  have:=congrArg List.length hl
  rw [List.length_append,List.length_reverse] at this
  omega
 have ht:(l.take (du l.reverse).length).reverse=du l.reverse:=by
  conv=>lhs;rw [show l.take (du l.reverse).length=(du l.reverse).reverse from by
   conv=>lhs;arg 2;rw [hl]
   rw [List.take_left' (by rw [List.length_reverse])]]
  rw [List.reverse_reverse]
 unfold kR len
 rw [TK l (by omega) l.length (n+1) (Nat.le_refl _) (by omega),List.take_length]
 simp only [Option.bind_some]
 rw [ak (show (0:Int)≤((du l.reverse).length:Nat) by omega),ak (Int.le_refl _),ak (show (((du l.reverse).length:Nat):Int)*2≤1099511627776 by omega)]
 simp only [Bool.and_self,cond_true,Int.toNat_natCast]
 have:=Tu l (du l.reverse).length hk (by omega) (du l.reverse).length 0 (n+1) (by omega) (by omega)
 rw [List.take_zero,List.reverse_nil,List.map_nil,List.append_nil,ht] at this
 rw [show (0:Int)=((0:Nat):Int) from rfl,this]
 simp only [Option.bind_some]
 rw [hc]
 rfl
end Go.Proofs.YtnddpppljnjmcaaGreatDoor.V
/- Law 5: plain digits in a base. -/
namespace Go.Proofs.YtnddpppljnjmcaaGreatDoor.V
open Go Go.Iv Go.Gv
set_option linter.unusedSimpArgs false
set_option linter.unusedVariables false
def Ou (base:Int) (c:UInt8):Bool:=decide (0≤hv c∧hv c<base)
theorem AT (base:Int) (c:UInt8):(bif aO (hv c) 0 then some true else some (aB base (hv c)))=some (!Ou base c):=by
 unfold Ou
 by_cases h1:hv c<0
 ·rw [az h1,decide_eq_false (by omega)];rfl
 ·rw [aD (by omega),cond_false]
  by_cases h2:base≤hv c
  ·rw [ak h2,decide_eq_false (by omega)];rfl
  ·rw [gO (by omega),decide_eq_true (by omega)];rfl
theorem Hq {base:Int} (hb:base≤16) {c:UInt8} (h:Ou base c=true):0≤hv c∧hv c≤15:=by
 have:=of_decide_eq_true h;omega
theorem O3 (c:UInt8):Ou 10 c=BS c:=by
 have h:=QQ c
 unfold Ou
 cases hd:BS c with
 |true=>exact decide_eq_true (h.2 hd)
 |false=>
  apply decide_eq_false
  intro h2
  have:=h.1 h2
  rw [hd] at this;cases this
def fold (k:Int):List Int→List UInt8→List Int
 |l,[]=>l
 |l,c::r=>fold k (mul k l (hv c)) r
def ia (base:Int):List UInt8→Bool
 | []=>true
 |c::r=>Ou base c &&ia base r
theorem pb {base:Int}:∀ {s:List UInt8},ia base s=true→∀ c,c∈s→Ou base c=true
 | [],_,c,h=>by cases h
 |x::r,h,c,hc=>by
  simp only [ia,Bool.and_eq_true] at h
  cases hc with
  |head=>exact h.1
  |tail _ hc=>exact pb h.2 c hc
theorem th (k:Int) (hk:0≤k∧k≤16):∀ (s:List UInt8) (l:List Int),Dg l→ia k s=true→Dg (fold k l s)∧(fold k l s).length≤l.length+2*s.length
 | [],l,hl,_=>⟨hl,by simp [fold]⟩
 |c::r,l,hl,h=>by
  simp only [ia,Bool.and_eq_true] at h
  obtain ⟨m1,m2⟩:=Gb k hk l (hv c) hl (Hq hk.2 h.1)
  obtain ⟨f1,f2⟩:=th k hk r _ m1 h.2
  exact ⟨f1,by simp only [fold,List.length_cons];omega⟩
theorem SH (s b:List UInt8) (l:List Int) (hs:b.length≤100000):∀ (d i n:Nat),i+d=b.length→d+1≤n→
  lH n s 10 l b (len b) (i:Int)=some (bif ia 10 (b.drop i) then .inl ((s,(10,(l,()))),()) else .inr (([],(false,())),())):=by
 intro d
 induction d with
 |zero=>
  intro i n h hn
  obtain ⟨n,rfl⟩:∃ k,n=k+1:=⟨n - 1,by omega⟩
  simp only [lH,len,aD (show ((b.length:Nat):Int)≤(i:Int) by omega),cond_false,List.drop_eq_nil_of_le (show b.length≤i by omega)]
  rfl
 |succ d ih=>
  intro i n h hn
  obtain ⟨n,rfl⟩:∃ k,n=k+1:=⟨n - 1,by omega⟩
  have hi:i<b.length:=by omega
  have w:IntKind.wrap .i64 ((i:Int)+1)=((i+1:Nat):Int):=by rw [ae]<;>omega
  have e10:((10:Int) !=10)=false:=by decide
  have ih:=ih (i+1) n (by omega) (by omega)
  rw [List.drop_eq_getElem_cons hi]
  unfold len at ih ⊢
  simp only [lH,az (show (i:Int)<((b.length:Nat):Int) by omega),ak (show (0:Int)≤(i:Int) by omega),cond_true,Int.toNat_natCast,List.getElem?_eq_getElem hi,Option.bind_some,w,gj,AT,e10,cond_false,ia,ih]
  cases Ou 10 b[i]<;>rfl
theorem TL (k:Int) (hk:0≤k∧k≤16) (hk2:(k !=10)=true) (s b:List UInt8) (hs:b.length≤27000):∀ (d i n:Nat) (l:List Int),i+d=b.length→Dg l→l.length+2*d≤40000→3*d+l.length+4≤n→
  lH n s k l b (len b) (i:Int)=some (bif ia k (b.drop i) then .inl ((s,(k,(fold k l (b.drop i),()))),()) else .inr (([],(false,())),())):=by
 intro d
 induction d with
 |zero=>
  intro i n l h hl hb hn
  obtain ⟨n,rfl⟩:∃ k,n=k+1:=⟨n - 1,by omega⟩
  simp only [lH,len,aD (show ((b.length:Nat):Int)≤(i:Int) by omega),cond_false,List.drop_eq_nil_of_le (show b.length≤i by omega)]
  rfl
 |succ d ih=>
  intro i n l h hl hb hn
  obtain ⟨n,rfl⟩:∃ k,n=k+1:=⟨n - 1,by omega⟩
  have hi:i<b.length:=by omega
  have w:IntKind.wrap .i64 ((i:Int)+1)=((i+1:Nat):Int):=by rw [ae]<;>omega
  have ih:=ih (i+1) n
  rw [List.drop_eq_getElem_cons hi]
  unfold len at ih ⊢
  simp only [lH,az (show (i:Int)<((b.length:Nat):Int) by omega),ak (show (0:Int)≤(i:Int) by omega),cond_true,Int.toNat_natCast,List.getElem?_eq_getElem hi,Option.bind_some,w,gj,AT,hk2,ia]
  cases ho:Ou k b[i] with
  |false=>rfl
  |true=>
   have hm:=Hq hk.2 ho
   obtain ⟨m1,m2⟩:=Gb k hk l (hv b[i]) hl hm
   simp only [Bool.not_true,cond_false]
   rw [Gq (n+1) l k (hv b[i]) hk hl hm (by omega) (by omega)]
   simp only [Option.bind_some]
   rw [ih (mul k l (hv b[i])) (by omega) m1 (by omega) (by omega)]
   rfl
theorem PW (s:List UInt8) (hs:s.length≤100000) (ha:ia 10 s=true):∀ (i n:Nat) (acc:List Int),i≤s.length→acc.length+i≤100000→i+1≤n→
  yu n s acc ((i:Int) - 1)=some (.inl ((acc++(s.take i).reverse.map hv,()),())):=by
 intro i
 induction i with
 |zero=>
  intro n acc h hl hn
  obtain ⟨n,rfl⟩:∃ k,n=k+1:=⟨n - 1,by omega⟩
  simp only [yu,gO (show ((0:Nat):Int) - 1<0 by omega),cond_false,List.take_zero,List.reverse_nil,List.map_nil,List.append_nil]
 |succ i ih=>
  intro n acc h hl hn
  obtain ⟨n,rfl⟩:∃ k,n=k+1:=⟨n - 1,by omega⟩
  have hi:i<s.length:=by omega
  have e:((i+1:Nat):Int) - 1=(i:Int):=by omega
  have w:IntKind.wrap .i64 ((i:Int) - 1)=(i:Int) - 1:=by rw [ae]<;>omega
  have hd:=pb ha s[i] (List.getElem_mem hi)
  have hu:=RV s[i] (by rw [←O3];exact hd)
  have hb:=gV s[i]
  have w2:IntKind.wrap .i64 (IntKind.wrap .i64 (ub s[i]) - 48)=hv s[i]:=by rw [fR,hu,ae]<;>omega
  rw [e,iG s i hi]
  simp only [yu,ak (show (0:Int)≤(i:Int) by omega),cond_true,Int.toNat_natCast,List.getElem?_eq_getElem hi,Option.bind_some,w,w2,AT,hd,Bool.not_true,cond_false,List.length_singleton,List.length_cons,List.length_nil,dM (show (acc.length+(0+1))*9≤1000000 by omega)]
  rw [ih n _ (by omega) (by simp;omega) (by omega),List.map_cons,List.append_assoc]
  rfl
theorem OJ (n:Nat) (s:List UInt8) (hs:s.length≤5000) (ha:ia 10 s=true) (hn:s.length≤n):of n s=some (s.reverse.map hv,()):=by
 unfold of len
 have w:IntKind.wrap .i64 ((s.length:Int) - 1)=(s.length:Int) - 1:=by rw [ae]<;>omega
 rw [aD (show ((s.length:Nat):Int)≤5000 by omega),w,PW s (by omega) ha s.length (n+1) [] (Nat.le_refl _) (by simp;omega) (by omega),List.take_length]
 rfl
theorem Rn (s:List UInt8) (ha:ia 10 s=true):Dg (s.reverse.map hv):=fun x hx=>by
 obtain ⟨c,hc,rfl⟩:=List.mem_map.1 hx
 have:=of_decide_eq_true (pb ha c (List.mem_reverse.1 hc))
 omega
def pl (base:Int) (s:List UInt8):List UInt8×(Bool×Unit):=
 bif s.isEmpty ||(aO 5000 (len s) || !ia base s) then ([],(false,())) else (tx (bif base==10 then s.reverse.map hv else fold base [] s),(true,()))
theorem bad (s:List UInt8) (base:Int) (hb:base=8∨base=10∨base=16):(bif (s==([]:List UInt8)) then
   some Bool.true
  else
  bif (Go.Iv.aO (5000:Int) (len s)) then
   some Bool.true
  else
  bif (base !=(8:Int)) then
   bif (base !=(10:Int)) then
    some (base !=(16:Int))
   else
   some Bool.false
  else
  some Bool.false)=some (s.isEmpty ||aO 5000 (len s)):=by
 rw [fe]
 rcases hb with rfl |rfl |rfl<;>cases s.isEmpty<;>cases aO 5000 (len s)<;>rfl
theorem mP (n:Nat) (s:List UInt8) (base:Int) (hb:base=8∨base=10∨base=16) (hn:27000≤n):plain n s base=some (pl base s):=by
 have hk:0≤base∧base≤16:=by omega
 unfold plain pl
 rw [bad s base hb]
 cases he:s.isEmpty with
 |true=>rfl
 |false=>
  by_cases hl:s.length≤5000
  ·rw [aD (show len s≤5000 by unfold len;omega)]
   simp only [Bool.false_or,Option.bind_some,cond_false]
   by_cases h10:base=10
   ·subst h10
    have:=SH s s [] (by omega) s.length 0 (n+2) (by omega) (by omega)
    rw [List.drop_zero] at this
    rw [show (0:Int)=((0:Nat):Int) from rfl,this]
    cases ha:ia 10 s with
    |false=>rfl
    |true=>
     have e10:((10:Int)==10)=true:=by decide
     simp only [Option.bind_some,cond_true,Bool.not_true,cond_false,e10]
     rw [OJ (n+2) s hl ha (by omega)]
     simp only [Option.bind_some]
     rw [zl n _ (by simp;omega) (by simp;omega)]
     rfl
   ·have e10:(base==10)=false:=beq_eq_false_iff_ne.2 h10
    have:=TL base hk (by rw [bne,e10];rfl) s s (by omega) s.length 0 (n+2) [] (by omega) Dg.nil (by simp;omega) (by simp;omega)
    rw [List.drop_zero] at this
    rw [show (0:Int)=((0:Nat):Int) from rfl,this]
    cases ha:ia base s with
    |false=>rfl
    |true=>
     obtain ⟨f1,f2⟩:=th base hk s [] Dg.nil ha
     rw [List.length_nil] at f2
     simp only [Option.bind_some,cond_true,Bool.not_true,cond_false,e10]
     rw [zl n _ (by omega) (by omega)]
     rfl
  ·rw [az (show 5000<len s by unfold len;omega)]
   rfl
theorem TH (k:Int) (s:List UInt8) (hs:s.length≤100000):∀ (d i n:Nat) (acc:List Int),i+d=s.length→acc.length=i→d+1≤n→
  qt n s k acc (i:Int)=some (bif ia k (s.drop i) then .inl ((acc++(s.drop i).map hv,()),()) else .inr (((),()),())):=by
 intro d
 induction d with
 |zero=>
  intro i n acc h hl hn
  obtain ⟨n,rfl⟩:∃ k,n=k+1:=⟨n - 1,by omega⟩
  simp only [qt,len,aD (show ((s.length:Nat):Int)≤(i:Int) by omega),cond_false,List.drop_eq_nil_of_le (show s.length≤i by omega),List.map_nil,List.append_nil]
  rfl
 |succ d ih=>
  intro i n acc h hl hn
  obtain ⟨n,rfl⟩:∃ k,n=k+1:=⟨n - 1,by omega⟩
  have hi:i<s.length:=by omega
  have w:IntKind.wrap .i64 ((i:Int)+1)=((i+1:Nat):Int):=by rw [ae]<;>omega
  have ih:=ih (i+1) n (acc++ [hv s[i]]) (by omega) (by simp;omega) (by omega)
  rw [List.drop_eq_getElem_cons hi]
  simp only [qt,len,az (show (i:Int)<((s.length:Nat):Int) by omega),ak (show (0:Int)≤(i:Int) by omega),cond_true,Int.toNat_natCast,List.getElem?_eq_getElem hi,Option.bind_some,w,lg,AT,ia,
   List.length_singleton,List.length_cons,List.length_nil,dM (show (acc.length+(0+1))*9≤1000000 by omega),ih,List.map_cons,List.append_assoc,List.singleton_append]
  cases Ou k s[i]<;>rfl
theorem Ls (l:List Int) (hs:l.length≤100000):∀ (i n:Nat) (acc:List Int),i≤l.length→acc.length+i≤100000→i+1≤n→
  zr n l acc ((i:Int) - 1)=some ((acc++(l.take i).reverse,()),()):=by
 intro i
 induction i with
 |zero=>
  intro n acc h hl hn
  obtain ⟨n,rfl⟩:∃ k,n=k+1:=⟨n - 1,by omega⟩
  simp only [zr,gO (show ((0:Nat):Int) - 1<0 by omega),cond_false,List.take_zero,List.reverse_nil,List.append_nil]
 |succ i ih=>
  intro n acc h hl hn
  obtain ⟨n,rfl⟩:∃ k,n=k+1:=⟨n - 1,by omega⟩
  have hi:i<l.length:=by omega
  have e:((i+1:Nat):Int) - 1=(i:Int):=by omega
  have w:IntKind.wrap .i64 ((i:Int) - 1)=(i:Int) - 1:=by rw [ae]<;>omega
  rw [e,iG l i hi]
  simp only [zr,len,ak (show (0:Int)≤(i:Int) by omega),az (show (i:Int)<((l.length:Nat):Int) by omega),Bool.and_self,cond_true,Int.toNat_natCast,List.getElem?_eq_getElem hi,Option.bind_some,w,List.length_singleton,List.length_cons,List.length_nil,dM (show (acc.length+(0+1))*9≤1000000 by omega)]
  rw [ih n _ (by omega) (by simp;omega) (by omega),List.append_assoc]
  rfl
def un (l:List Int):List Int:=bif l.isEmpty then [0] else l
theorem Qk {l:List Int} (h:Dg l):Dg (un l):=by
 unfold un
 cases l.isEmpty with
 |true=>exact Dg.cons (by omega) Dg.nil
 |false=>exact h
theorem MC (l:List Int):(un l).length≤l.length+1:=by
 unfold un
 cases l.isEmpty<;>simp
theorem Rw (k:Int) (l:List Int) (m:Int) (hm:0≤m∧m≤15):(bif (mul k (un l) m).isEmpty then [0] else mul k (un l) m)=un (mul k l m):=by
 cases l with
 |cons x r=>rfl
 |nil=>
  show (bif (mul k [0] m).isEmpty then [0] else mul k [0] m)=un (mul k [] m)
  have e1:mul k [0] m=(m%10)::carry (m / 10):=by
   unfold mul;simp only [kr,Int.zero_mul,Int.add_zero];rfl
  have e2:mul k [] m=carry m:=rfl
  rw [e1,e2]
  show (m%10)::carry (m / 10)=un (carry m)
  unfold carry
  by_cases h0:m=0
  ·subst h0;rfl
  by_cases h1:m<10
  ·rw [if_neg h0,if_pos h1,if_pos (show m / 10=0 by omega)];rfl
  ·rw [if_neg h0,if_neg h1,if_neg (show ¬ m / 10=0 by omega),if_pos (show m / 10<10 by omega)];rfl
theorem TA (k:Int) (hk:0≤k∧k≤16) (s:List UInt8) (ha:ia k s=true) (hs:s.length≤27000):∀ (d i n:Nat) (l:List Int),i+d=s.length→Dg l→l.length+2*d≤40000→3*d+l.length+6≤n→
  mi n k (s.map hv) (un l) (i:Int)=some ((un (fold k l (s.drop i)),()),()):=by
 intro d
 induction d with
 |zero=>
  intro i n l h hl hb hn
  obtain ⟨n,rfl⟩:∃ k,n=k+1:=⟨n - 1,by omega⟩
  simp only [mi,len,List.length_map,aD (show ((s.length:Nat):Int)≤(i:Int) by omega),cond_false,List.drop_eq_nil_of_le (show s.length≤i by omega)]
  rfl
 |succ d ih=>
  intro i n l h hl hb hn
  obtain ⟨n,rfl⟩:∃ k,n=k+1:=⟨n - 1,by omega⟩
  have hi:i<s.length:=by omega
  have hi2:i<(s.map hv).length:=by rw [List.length_map];exact hi
  have w:IntKind.wrap .i64 ((i:Int)+1)=((i+1:Nat):Int):=by rw [ae]<;>omega
  have hm:=Hq hk.2 (pb ha s[i] (List.getElem_mem hi))
  obtain ⟨m1,m2⟩:=Gb k hk l (hv s[i]) hl hm
  have hu:=MC l
  rw [List.drop_eq_getElem_cons hi]
  simp only [mi,len,List.length_map,az (show (i:Int)<((s.length:Nat):Int) by omega),ak (show (0:Int)≤(i:Int) by omega),Bool.and_self,cond_true,Int.toNat_natCast,List.getElem?_eq_getElem hi2,List.getElem_map,Option.bind_some,w]
  rw [E5 (n+1) (un l) k (hv s[i]) hk (Qk hl) hm (by omega) (by omega),Rw k l _ hm]
  simp only [Option.bind_some]
  rw [ih (i+1) n (mul k l (hv s[i])) (by omega) m1 (by omega) (by omega)]
  rfl
theorem RX (l:List Int):tx (un l)=tx l:=by
 cases l with
 |nil=>decide
 |cons x r=>rfl
theorem R2 (l:List Int):un l≠ []:=by
 cases l with
 |nil=>simp [un]
 |cons=>simp [un]
theorem ko (n:Nat) (s:List UInt8) (base:Int) (hb:base=8∨base=10∨base=16) (hn:27000≤n):mK n s base=some (pl base s):=by
 have hk:0≤base∧base≤16:=by omega
 unfold mK pl
 rw [bad s base hb]
 cases he:s.isEmpty with
 |true=>rfl
 |false=>
  by_cases hl:s.length≤5000
  ·rw [aD (show len s≤5000 by unfold len;omega)]
   simp only [Bool.false_or,Option.bind_some,cond_false]
   have:=TH base s (by omega) s.length 0 n [] (by omega) rfl (by omega)
   rw [List.drop_zero,List.nil_append] at this
   rw [show (0:Int)=((0:Nat):Int) from rfl,this]
   cases ha:ia base s with
   |false=>rfl
   |true=>
    have hne:(s.map hv).isEmpty=false:=by
     cases s with
     |nil=>cases he
     |cons=>rfl
    simp only [Option.bind_some,cond_true,Bool.not_true,cond_false,hne,Bool.false_eq_true,if_false]
    by_cases h10:base=10
    ·subst h10
     have e10:((10:Int)==10)=true:=by decide
     have w:IntKind.wrap .i64 (((s.map hv).length:Int) - 1)=((s.map hv).length:Int) - 1:=by rw [List.length_map,ae]<;>omega
     simp only [e10,cond_true,len,w]
     rw [Ls (s.map hv) (by simp;omega) (s.map hv).length (n+2) [] (Nat.le_refl _) (by simp;omega) (by simp;omega),List.take_length,List.nil_append,←List.map_reverse]
     simp only [Option.bind_some]
     rw [lU n _ (Rn s ha) (by intro h;cases s with
      |nil=>cases he
      |cons=>simp at h) (by simp;omega) (by simp;omega)]
     rfl
    ·have e10:(base==10)=false:=beq_eq_false_iff_ne.2 h10
     have:=TA base hk s ha (by omega) s.length 0 n [] (by omega) Dg.nil (by simp;omega) (by simp;omega)
     rw [List.drop_zero] at this
     obtain ⟨f1,f2⟩:=th base hk s [] Dg.nil ha
     rw [List.length_nil] at f2
     have hu:=MC (fold base [] s)
     simp only [e10,cond_false]
     show Option.bind (mi n base (s.map hv) (un []) ((0:Nat):Int)) _=_
     rw [this]
     simp only [Option.bind_some]
     rw [lU n _ (Qk f1) (R2 _) (by omega) (by omega),RX]
     rfl
  ·rw [az (show 5000<len s by unfold len;omega)]
   rfl
end Go.Proofs.YtnddpppljnjmcaaGreatDoor.V
/- Law 5: whole numbers. -/
namespace Go.Proofs.YtnddpppljnjmcaaGreatDoor.V
open Go Go.Iv Go.Gv
set_option linter.unusedSimpArgs false
set_option linter.unusedVariables false
theorem OE (l:List Int):tx l= [48]∨∃ x r,tx l=x::r∧(x==48)=false:=by
 unfold tx
 cases h:tl (l.reverse.map ch) with
 |nil=>exact .inl rfl
 |cons x r=>exact .inr ⟨x,r,rfl,I4 _ x r h⟩
theorem PH (base:Int) (t:List UInt8) (h:(pl base t).2.1=true):(pl base t).1= [48]∨∃ x r,(pl base t).1=x::r∧(x==48)=false:=by
 unfold pl at h ⊢
 cases hb:(t.isEmpty ||(aO 5000 (len t) || !ia base t)) with
 |true=>rw [hb] at h;cases h
 |false=>exact OE _
theorem Qr (l:List Int):(tx l).length≤l.length+1:=by
 unfold tx
 have:=AO (l.reverse.map ch)
 rw [List.length_map,List.length_reverse] at this
 cases (tl (l.reverse.map ch)).isEmpty with
 |true=>simp
 |false=>simp only [cond_false];omega
theorem GO (base:Int) (hk:0≤base∧base≤16) (t:List UInt8):(pl base t).1.length≤10001:=by
 unfold pl
 cases hb:(t.isEmpty ||(aO 5000 (len t) || !ia base t)) with
 |true=>simp
 |false=>
  simp only [Bool.or_eq_false_iff,Bool.not_eq_false'] at hb
  obtain ⟨_,h2,h3⟩:=hb
  rw [gu] at h2
  have h2:=of_decide_eq_false h2
  unfold len at h2
  simp only [cond_false]
  refine Nat.le_trans (Qr _) ?_
  cases base==10 with
  |true=>simp only [cond_true,List.length_map,List.length_reverse];omega
  |false=>
   have:=(th base hk t [] Dg.nil h3).2
   simp only [cond_false,List.length_nil] at this ⊢;omega
def no:BL×(Bool×Unit):=((false,([],(0,0))),(false,()))
def fin (b:Bool) (p:List UInt8×(Bool×Unit)):BL×(Bool×Unit):=
 bif p.2.1 then (norm (b && !(p.1== [48])) p.1 0,(true,())) else no
theorem R4 (x:UInt8) (r:List UInt8) (h:(x==48)=false):tl (x::r)=x::r:=by
 unfold tl;rw [List.dropWhile,h]
theorem MW (x:UInt8) (r:List UInt8) (h:(x==48)=false):∃ q,de (x::r)=x::q:=by
 have hn:=wQ x r h
 have hp:de (x::r)<+:x::r:=by
  have:=(List.dropWhile_suffix (· ==(48:UInt8)) (l:=(x::r).reverse))
  have:=List.reverse_prefix.2 this
  rw [List.reverse_reverse] at this
  exact this
 obtain ⟨q,hq⟩:=hp
 cases ht:de (x::r) with
 |nil=>rw [ht] at hn;cases hn
 |cons y z=>
  rw [ht] at hq
  injection hq with h1 h2
  exact ⟨z,by rw [h1]⟩
theorem vO (n:Nat) (b:Bool) (base:Int) (hb:0≤base∧base≤16) (t:List UInt8) (hn:27000≤n):
  (bif !(pl base t).2.1 then some no else
   Option.bind (whole (n+1) b (pl base t).1 0) fun y8=>
   bif y8.1.1 then
    some (((!(y8.1.2.1==([48]:List UInt8))),(y8.1.2.1,(y8.1.2.2.1,y8.1.2.2.2))),Bool.true,())
   else
   some ((Bool.false,(y8.1.2.1,(y8.1.2.2.1,y8.1.2.2.2))),Bool.true,()))=some (fin b (pl base t)):=by
 have hl:=GO base hb t
 rw [uV (n+1) b _ 0 (by omega) (by omega) (by omega) (by omega)]
 unfold fin
 cases h:(pl base t).2.1 with
 |false=>rfl
 |true=>
  simp only [Bool.not_true,cond_false,cond_true,Option.bind_some]
  rcases PH base t h with hf |⟨x,r,hf,hx⟩
  ·rw [hf];cases b<;>rfl
  ·obtain ⟨q,hq⟩:=MW x r hx
   have e1:((x::r)==([48]:List UInt8))=false:=by show ((x==48) &&_)=false;rw [hx];rfl
   have e2:((x::q)==([48]:List UInt8))=false:=by show ((x==48) &&_)=false;rw [hx];rfl
   rw [hf,e1]
   unfold norm
   rw [R4 x r hx,hq]
   simp only [List.isEmpty_cons,cond_false,e2,Bool.not_false,Bool.and_true]
   cases b<;>rfl
theorem Ah (n:Nat) (b:Bool) (base:Int) (hb:0≤base∧base≤16) (t:List UInt8) (hn:27000≤n):
  (bif !(pl base t).2.1 then some no else
   bif b then
    Option.bind (dy (n+1) (!((pl base t).1==([48]:List UInt8))) (pl base t).1 (0:Int)) fun y14=>
    some ((y14.1.1,(y14.1.2.1,(y14.1.2.2.1,y14.1.2.2.2))),Bool.true,())
   else
   Option.bind (dy (n+1) Bool.false (pl base t).1 (0:Int)) fun y15=>
   some ((y15.1.1,(y15.1.2.1,(y15.1.2.2.1,y15.1.2.2.2))),Bool.true,()))=some (fin b (pl base t)):=by
 have hl:=GO base hb t
 rw [mc (n+1) _ _ 0 (by omega) (by omega) (by omega) (by omega),mc (n+1) _ _ 0 (by omega) (by omega) (by omega) (by omega)]
 unfold fin
 cases h:(pl base t).2.1 with
 |false=>rfl
 |true=>cases b<;>rfl
def iv (s:List UInt8):BL×(Bool×Unit):=
 bif pre [48,111] s then fin false (pl 8 (s.drop 2)) else bif pre [48,120] s then fin false (pl 16 (s.drop 2)) else fin (fV s).2 (pl 10 (fV s).1)
theorem Ft (n:Nat) (s:List UInt8) (hn:27000≤n):int n s=some (iv s):=by
 unfold int iv
 rw [jY,jY,gN]
 simp only [Option.bind_some]
 cases h1:pre [48,111] s with
 |true=>
  simp only [cond_true]
  rw [mP n _ 8 (by omega) hn]
  exact vO n false 8 (by omega) (s.drop 2) hn
 |false=>
  simp only [cond_false]
  cases h2:pre [48,120] s with
  |true=>
   simp only [cond_true]
   rw [mP n _ 16 (by omega) hn]
   exact vO n false 16 (by omega) (s.drop 2) hn
  |false=>
   simp only [cond_false]
   rw [mP n _ 10 (by omega) hn]
   exact vO n (fV s).2 10 (by omega) (fV s).1 hn
theorem PF (s:List UInt8) (h:pre [48,111] s=true):pre [48,120] s=false:=by
 match s,h with
 | [],h=>cases h
 | [x],h=>simp [pre] at h
 |x::y::r,h=>
  simp only [pre,Bool.and_true,Bool.and_eq_true,beq_iff_eq] at h ⊢
  rw [h.2];simp
theorem Jd (c:UInt8) (s:List UInt8) (h:pre [48,c] s=true):(fV s).2=false∧2≤s.length:=by
 match s,h with
 | [],h=>cases h
 | [x],h=>simp [pre] at h
 |x::y::r,h=>
  simp only [pre,Bool.and_true,Bool.and_eq_true,beq_iff_eq] at h
  rw [h.1]
  exact ⟨rfl,by simp⟩
theorem KX (n:Nat) (s:List UInt8) (hn:27000≤n):OC n s=some (iv s):=by
 unfold OC iv
 rw [jq,fO,fO]
 simp only [Option.bind_some,dA]
 cases h1:pre [48,111] s with
 |true=>
  obtain ⟨k1,k2⟩:=Jd _ s h1
  simp only [cond_true,PF s h1,cond_false,ak (show (2:Int)≤len s by unfold len;omega)]
  rw [ko n _ 8 (by omega) hn,k1]
  exact Ah n false 8 (by omega) (s.drop 2) hn
 |false=>
  simp only [cond_false]
  cases h2:pre [48,120] s with
  |true=>
   obtain ⟨k1,k2⟩:=Jd _ s h2
   simp only [cond_true,ak (show (2:Int)≤len s by unfold len;omega)]
   rw [ko n _ 16 (by omega) hn,k1]
   exact Ah n false 16 (by omega) (s.drop 2) hn
  |false=>
   simp only [cond_false]
   rw [ko n _ 10 (by omega) hn]
   exact Ah n (fV s).2 10 (by omega) (fV s).1 hn
end Go.Proofs.YtnddpppljnjmcaaGreatDoor.V
/- Law 5: exponents. -/
namespace Go.Proofs.YtnddpppljnjmcaaGreatDoor.V
open Go Go.Iv Go.Gv
set_option linter.unusedSimpArgs false
set_option linter.unusedVariables false
set_option maxRecDepth 27000
def vf:Int→List UInt8→Int
 |a,[]=>a
 |a,c::r=>vf (a*10+(ub c - 48)) r
def qd:List UInt8→Bool
 | []=>true
 |c::r=>BS c &&qd r
theorem lf:∀ (d:List UInt8),((run d).length=d.length)↔qd d=true
 | []=>⟨fun _=>rfl,fun _=>rfl⟩
 |c::r=>by
  have ih:=lf r
  unfold run at ih ⊢
  simp only [List.takeWhile,qd]
  cases BS c with
  |false=>simp
  |true=>simp only [List.length_cons,Bool.true_and,←ih];omega
theorem Nj (d:List UInt8) (h:qd d=true):run d=d:=by
 have:=(lf d).2 h
 have h2:=nV d
 rw [this,List.take_length] at h2
 exact h2.symm
theorem vp (c:UInt8) (h:BS c=true):48≤ub c∧ub c≤57:=by
 unfold BS at h;unfold ub
 rw [Bool.and_eq_true,Nat.ble_eq,Nat.ble_eq] at h;omega
theorem oa:∀ (d:List UInt8),qd d=true→∀ (i:Nat) (h:i<d.length),BS d[i]=true
 | [],_,i,h=>by simp at h
 |c::r,ha,i,h=>by
  simp only [qd,Bool.and_eq_true] at ha
  cases i with
  |zero=>exact ha.1
  |succ i=>exact oa r ha.2 i (by simpa using h)
theorem Qp (c:UInt8) (h:BS c=true):ub (c - 48)=ub c - 48:=by
 have hb:=vp c h
 unfold ub at hb ⊢
 have e:(48:UInt8)≤c:=by rw [UInt8.le_iff_toNat_le];show 48≤c.toNat;omega
 rw [UInt8.toNat_sub_of_le _ _ e]
 show ((c.toNat - 48:Nat):Int)=(c.toNat:Int) - 48
 omega
theorem QT (i:Nat) (h:i≤8):(10:Int)^i≤100000000∧(1:Int)≤10^i∧(10:Int)^(i+1)=10^i*10:=by
 refine ⟨?_,?_,Int.pow_succ ..⟩
 ·have:=Nat.pow_le_pow_right (show 0<10 by decide) h
  have e:((10^i:Nat):Int)=10^i:=by norm_cast
  rw [←e];omega
 ·have:0<10^i:=Nat.pow_pos (show 0<10 by decide)
  have e:((10^i:Nat):Int)=10^i:=by norm_cast
  rw [←e];omega
theorem N7 (t d:List UInt8) (ha:qd d=true) (hl:d.length≤9):∀ (m i n:Nat) (a:Int),i+m=d.length→0≤a∧a<10^i→m+1≤n→
  gG n t a d (len d) (i:Int)=some ((t,(vf a (d.drop i),())),()):=by
 intro m
 induction m with
 |zero=>
  intro i n a h hb hn
  obtain ⟨n,rfl⟩:∃ k,n=k+1:=⟨n - 1,by omega⟩
  simp only [gG,len,aD (show ((d.length:Nat):Int)≤(i:Int) by omega),cond_false,List.drop_eq_nil_of_le (show d.length≤i by omega),vf]
 |succ m ih=>
  intro i n a h hb hn
  obtain ⟨n,rfl⟩:∃ k,n=k+1:=⟨n - 1,by omega⟩
  have hi:i<d.length:=by omega
  have hd:=oa d ha i hi
  have hu:=vp _ hd
  obtain ⟨p1,p2,p3⟩:=QT i (by omega)
  have w:IntKind.wrap .i64 ((i:Int)+1)=((i+1:Nat):Int):=by rw [ae]<;>omega
  have w1:IntKind.wrap .i64 (IntKind.wrap .i64 (a*10)+IntKind.wrap .i64 (ub (d[i] - 48)))=a*10+(ub d[i] - 48):=by
   rw [fR,Qp _ hd,ae (x:=a*10),ae]<;>omega
  have q:Nat.blt (UInt8.toNat 9) (UInt8.toNat (d[i] - 48))=false:=by
   have:=Qp _ hd
   unfold ub at this hu
   have e:UInt8.toNat 9=9:=rfl
   rw [e]
   cases hq:Nat.blt 9 (UInt8.toNat (d[i] - 48)) with
   |false=>rfl
   |true=>
    have:=Nat.le_of_ble_eq_true hq
    omega
  have ih:=ih (i+1) n (a*10+(ub d[i] - 48)) (by omega) (by rw [p3];omega) (by omega)
  rw [List.drop_eq_getElem_cons hi]
  unfold len at ih ⊢
  simp only [gG,az (show (i:Int)<((d.length:Nat):Int) by omega),ak (show (0:Int)≤(i:Int) by omega),cond_true,Int.toNat_natCast,List.getElem?_eq_getElem hi,Option.bind_some,w,w1,q,cond_false,vf,ih]
theorem tL (d:List UInt8):∀ (a:Int) (i:Nat),qd d=true→i+d.length≤9→0≤a∧a<10^i→0≤vf a d∧vf a d<1000000000:=by
 induction d with
 |nil=>
  intro a i _ h hb
  simp only [vf]
  rw [List.length_nil] at h
  have:=Nat.pow_le_pow_right (show 0<10 by decide) h
  have e:((10^i:Nat):Int)=10^i:=by norm_cast
  rw [←e] at hb
  simp only [Nat.add_zero] at this
  omega
 |cons c r ih=>
  intro a i ha h hb
  simp only [qd,Bool.and_eq_true] at ha
  rw [List.length_cons] at h
  have hu:=vp _ ha.1
  obtain ⟨p1,p2,p3⟩:=QT i (by omega)
  exact ih _ (i+1) ha.2 (by omega) (by rw [p3];omega)
def Fy (d:List UInt8):Bool:= !d.isEmpty &&(Nat.ble d.length 9 &&qd d)
def ex:List UInt8→Int×Bool
 | []=>(0,true)
 |c::r=>bif c !=101 &&c !=69 then (0,false) else bif Fy (fV r).1 then (bif (fV r).2 then -(vf 0 (fV r).1) else vf 0 (fV r).1,true) else (0,false)
theorem DI (s:List UInt8): -1000000000≤(ex s).1∧(ex s).1≤1000000000:=by
 cases s with
 |nil=>simp [ex]
 |cons c r=>
  simp only [ex]
  cases (c !=101 &&c !=69) with
  |true=>simp
  |false=>
   cases h:Fy (fV r).1 with
   |false=>simp
   |true=>
    unfold Fy at h
    rw [Bool.and_eq_true,Bool.and_eq_true,Nat.ble_eq] at h
    have:=tL (fV r).1 0 0 h.2.2 (by omega) (by simp)
    cases (fV r).2<;>simp only [cond_true,cond_false]<;>omega
theorem lJ (n:Nat) (s:List UInt8) (hs:s.length≤100000) (hn:s.length+20≤n):exponent n s=some ((ex s).1,(ex s).2,()):=by
 cases s with
 |nil=>rfl
 |cons c r=>
  unfold exponent
  have e0:((c::r)==([]:List UInt8))=false:=rfl
  have e1:(Option.bind ((c::r)[0]?) fun x1=>bif (x1 !=(101:UInt8)) then Option.bind ((c::r)[0]?) fun x2=>some (x2 !=(69:UInt8)) else some Bool.false)=some (c !=101 &&c !=69):=by
   show (bif c !=101 then some (c !=69) else some false)=_
   cases c !=101<;>rfl
  have hsl:=ta r
  rw [e0,cond_false,e1,Option.bind_some]
  simp only [ex]
  cases (c !=101 &&c !=69) with
  |true=>rfl
  |false=>
   rw [cond_false,cond_false,ak (show (1:Int)≤len (c::r) by simp only [len,List.length_cons];omega),cond_true,dA]
   show Option.bind (signed n r) _=_
   rw [gN,Option.bind_some]
   simp only [List.length_cons] at hs hn
   generalize hd:(fV r).1=d at*
   generalize (fV r).2=b at*
   rw [fe]
   cases he:d.isEmpty with
   |true=>rw [isEmpty_eq he];rfl
   |false=>
    have hpos:0<d.length:=by
     cases d with
     |nil=>cases he
     |cons=>simp
    rw [cond_false]
    by_cases h9:9<d.length
    ·have:Fy d=false:=by
      unfold Fy
      have:Nat.ble d.length 9=false:=by
       cases hq:Nat.ble d.length 9 with
       |false=>rfl
       |true=>have:=Nat.le_of_ble_eq_true hq;omega
      rw [this];simp
     rw [az (show 9<len d by unfold len;omega),cond_true,this];rfl
    rw [aD (show len d≤9 by unfold len;omega),cond_false,mL (n+2) d (by omega) (by omega),Option.bind_some]
    have h9':Nat.ble d.length 9=true:=Nat.ble_eq_true_of_le (by omega)
    cases ha:qd d with
    |false=>
     have h1:¬ ((run d).length=d.length):=fun h=>by
      have:=(lf d).1 h
      rw [ha] at this;cases this
     have h2:(((run d).length:Int) !=len d)=true:=by
      rw [bne_iff_ne];unfold len;omega
     have:Fy d=false:=by unfold Fy;rw [ha];simp
     rw [h2,cond_true,this];rfl
    |true=>
     have h2:(((run d).length:Int) !=len d)=false:=by
      rw [(lf d).2 ha];unfold len;simp
     have:Fy d=true:=by unfold Fy;rw [ha,he,h9'];rfl
     rw [h2,cond_false,this,az (show 0<len d by unfold len;omega),az (show len d<19 by unfold len;omega),cond_true,Option.bind_some,cond_true]
     have hg:d[0]? =some d[0]:=List.getElem?_eq_getElem hpos
     have hd0:=vp _ (oa d ha 0 hpos)
     have n45:(d[0]==45)=false:=by
      rw [beq_eq_false_iff_ne];intro h;rw [h] at hd0;exact absurd hd0.1 (by decide)
     have n43:(d[0]==43)=false:=by
      rw [beq_eq_false_iff_ne];intro h;rw [h] at hd0;exact absurd hd0.1 (by decide)
     have hv:=N7 d d ha (by omega) d.length 0 (n+2) 0 (by omega) (by simp) (by omega)
     rw [List.drop_zero] at hv
     rw [hg,Option.bind_some,n45,cond_false,Option.bind_some,n43,Option.bind_some,cond_false]
     rw [show gG (n+2) d (0:Int) d (len d) (0:Int)=_ from hv,Option.bind_some]
     simp only [hg,Option.bind_some,n45,cond_false]
     have hb:=tL d 0 0 ha (by omega) (by simp)
     have w:IntKind.wrap .i64 ((0:Int) - vf 0 d)= -(vf 0 d):=by rw [ae]<;>omega
     rw [w]
     cases b<;>rfl
end Go.Proofs.YtnddpppljnjmcaaGreatDoor.V
/- Law 5: floats. -/
namespace Go.Proofs.YtnddpppljnjmcaaGreatDoor.V
open Go Go.Iv Go.Gv
set_option linter.unusedSimpArgs false
set_option linter.unusedVariables false
set_option maxRecDepth 27000
def od (s:List UInt8):Bool:=s== [46,110,97,110] ||(s== [46,78,97,78] ||s== [46,78,65,78])
def isInf (s:List UInt8):Bool:=s== [46,105,110,102] ||(s== [46,73,110,102] ||s== [46,73,78,70])
def Rk:BL×(Bool×Unit):=((false,([],(0,2))),(true,()))
def QU (b:Bool):BL×(Bool×Unit):=((b,([],(0,1))),(true,()))
def tail (w p v:List UInt8) (b:Bool):BL×(Bool×Unit):=
 bif !(ex v).2 ||((w.isEmpty &&p.isEmpty) ||aO 5000 (len w+len p)) then no else (norm b (w++p) ((ex v).1 - len p),(true,()))
def num (t:List UInt8) (b:Bool):BL×(Bool×Unit):=
 bif pre [46] (t.drop (run t).length) then tail (run t) (run (t.drop ((run t).length+1))) (t.drop ((run t).length+1+(run (t.drop ((run t).length+1))).length)) b
 else tail (run t) [] (t.drop (run t).length) b
def fl (s:List UInt8):BL×(Bool×Unit):=bif od s then Rk else bif isInf (fV s).1 then QU (fV s).2 else num (fV s).1 (fV s).2
theorem Ge (n:Nat) (s:List UInt8):named n s=some (bif od s then Rk else bif isInf (fV s).1 then QU (fV s).2 else no):=by
 unfold named od isInf
 rw [gN]
 simp only [Option.bind_some]
 cases s== [46,110,97,110]<;>cases s== [46,78,97,78]<;>cases s== [46,78,65,78]<;>cases (fV s).1== [46,105,110,102]<;>cases (fV s).1== [46,73,110,102]<;>cases (fV s).1== [46,73,78,70]<;>rfl
theorem xX (n:Nat) (w p v:List UInt8) (b:Bool) (hw:w.length≤8100) (hp:p.length≤8100) (hn:27000≤n):
  (Option.bind (bif (!(ex v).2) then
    some Bool.true
   else
   bif (w==([]:List UInt8)) then
    bif (p==([]:List UInt8)) then
     some Bool.true
    else
    some (Go.Iv.aO (5000:Int) (Go.IntKind.wrap Go.IntKind.i64 (len w+len p)))
   else
   some (Go.Iv.aO (5000:Int) (Go.IntKind.wrap Go.IntKind.i64 (len w+len p)))) fun b7=>
  bif b7 then
   some no
  else
  bif (room (w.length+p.length)) then
  Option.bind (whole (n+1) b (w++p) (Go.IntKind.wrap Go.IntKind.i64 ((ex v).1 - len p))) fun y8=>
  some ((y8.1.1,(y8.1.2.1,(y8.1.2.2.1,y8.1.2.2.2))),Bool.true,())
  else none)=some (tail w p v b):=by
 have hb:=DI v
 have w1:IntKind.wrap .i64 (len w+len p)=len w+len p:=by unfold len;rw [ae]<;>omega
 have w2:IntKind.wrap .i64 ((ex v).1 - len p)=(ex v).1 - len p:=by unfold len;rw [ae]<;>omega
 rw [fe,fe,w1,w2,uV (n+1) b (w++p) _ (by unfold len;omega) (by unfold len;omega) (by simp;omega) (by simp;omega),dM (show w.length+p.length≤1000000 by omega)]
 unfold tail
 cases (ex v).2<;>cases w.isEmpty<;>cases p.isEmpty<;>cases aO 5000 (len w+len p)<;>rfl
theorem F8 (n:Nat) (s:List UInt8) (hs:s.length≤8100) (hn:27000≤n):float n s=some (fl s):=by
 unfold float fl
 rw [Ge,Option.bind_some]
 cases hnan:od s with
 |true=>rfl
 |false=>
  simp only [cond_false]
  cases hinf:isInf (fV s).1 with
  |true=>rfl
  |false=>
   simp only [cond_false,no]
   rw [gN]
   simp only [Option.bind_some,dA,Nat.sub_zero,List.drop_zero]
   have hsl:=ta s
   generalize (fV s).1=t at*
   generalize (fV s).2=b at*
   have hr:=pg t
   rw [mL (n+3) t (by omega) (by omega)]
   simp only [Option.bind_some,len,Int.toNat_natCast,ak (show (0:Int)≤((run t).length:Nat) by omega),ak (show (((run t).length:Nat):Int)≤(t.length:Nat) by omega),Bool.and_self,cond_true,kA,nV,dA]
   unfold num
   cases hp:pre [46] (t.drop (run t).length) with
   |false=>
    simp only [cond_false]
    rw [lJ n _ (by simp;omega) (by simp;omega)]
    simp only [Option.bind_some]
    have:=xX n (run t) [] (t.drop (run t).length) b (by omega) (by simp) hn
    exact this
   |true=>
    have hpl:=pc _ _ hp
    simp only [List.length_drop,List.length_singleton] at hpl
    have hr2:=pg (t.drop ((run t).length+1))
    rw [List.length_drop] at hr2
    simp only [cond_true,List.length_drop,ak (show (1:Int)≤((t.length - (run t).length:Nat):Int) by omega),List.drop_drop]
    rw [mL (n+3) _ (by simp;omega) (by simp;omega)]
    have w:IntKind.wrap .i64 ((1:Int)+((run (t.drop ((run t).length+1))).length:Nat))=((1+(run (t.drop ((run t).length+1))).length:Nat):Int):=by rw [ae]<;>omega
    simp only [Option.bind_some,w,Int.toNat_natCast,ak (show (0:Int)≤((1+(run (t.drop ((run t).length+1))).length:Nat):Int) by omega),ak (show (1:Int)≤((1+(run (t.drop ((run t).length+1))).length:Nat):Int) by omega),
     ak (show ((1+(run (t.drop ((run t).length+1))).length:Nat):Int)≤((t.length - (run t).length:Nat):Int) by omega),Bool.and_self,cond_true]
    have e1:(run t).length+(1+(run (t.drop ((run t).length+1))).length)=(run t).length+1+(run (t.drop ((run t).length+1))).length:=by omega
    have e2:List.take (1+(run (t.drop ((run t).length+1))).length - 1) (List.drop ((run t).length+1) t)=run (t.drop ((run t).length+1)):=by
     rw [Nat.add_sub_cancel_left,nV]
    rw [e1,e2,lJ n _ (by simp;omega) (by simp;omega)]
    simp only [Option.bind_some]
    exact xX n (run t) (run (t.drop ((run t).length+1))) _ b (by omega) (by omega) hn
end Go.Proofs.YtnddpppljnjmcaaGreatDoor.V
/- Law 5: the reference's floats. -/
namespace Go.Proofs.YtnddpppljnjmcaaGreatDoor.V
open Go Go.Iv Go.Gv
set_option linter.unusedSimpArgs false
set_option linter.unusedVariables false
set_option maxRecDepth 27000
theorem Pp (t4:List UInt8) (t5:Bool) (t6 t8:List UInt8) (t11:Bool) (d:List UInt8) (c0:Bool) (c1:List UInt8) (c2 c3:Int) (ha:qd d=true) (hl:d.length≤9):∀ (m i n:Nat) (a:Int),i+m=d.length→0≤a∧a<10^i→m+1≤n→
  iZ n t4 t5 t6 t8 a t11 d (d.length:Nat) (i:Int) c0 c1 c2 c3=some (((),(t4,(t5,(t6,(t8,(vf a (d.drop i),(t11,()))))))),((c0,(c1,(c2,(c3,())))),())):=by
 intro m
 induction m with
 |zero=>
  intro i n a h hb hn
  obtain ⟨n,rfl⟩:∃ k,n=k+1:=⟨n - 1,by omega⟩
  simp only [iZ,aD (show ((d.length:Nat):Int)≤(i:Int) by omega),cond_false,List.drop_eq_nil_of_le (show d.length≤i by omega),vf]
 |succ m ih=>
  intro i n a h hb hn
  obtain ⟨n,rfl⟩:∃ k,n=k+1:=⟨n - 1,by omega⟩
  have hi:i<d.length:=by omega
  have hd:=oa d ha i hi
  have hu:=vp _ hd
  obtain ⟨p1,p2,p3⟩:=QT i (by omega)
  have w:IntKind.wrap .i64 ((i:Int)+1)=((i+1:Nat):Int):=by rw [ae]<;>omega
  have w1:IntKind.wrap .i64 (IntKind.wrap .i64 (IntKind.wrap .i64 (a*10)+IntKind.wrap .i64 (ub d[i])) - 48)=a*10+(ub d[i] - 48):=by
   rw [fR,ae (x:=a*10),ae (x:=a*10+ub d[i]),ae]<;>omega
  have ih:=ih (i+1) n (a*10+(ub d[i] - 48)) (by omega) (by rw [p3];omega) (by omega)
  rw [List.drop_eq_getElem_cons hi]
  simp only [iZ,az (show (i:Int)<((d.length:Nat):Int) by omega),ak (show (0:Int)≤(i:Int) by omega),cond_true,Int.toNat_natCast,List.getElem?_eq_getElem hi,Option.bind_some,w,w1,vf,ih]
def Rt:List UInt8→Bool
 | []=>false
 |c::_=>c==101 ||c==69
theorem Rs (t:List UInt8) (i:Nat):(bif aO (i:Int) (len t) then
   bif aB (0:Int) (i:Int) then
   Option.bind (t[(Int.toNat (i:Int))]?) fun x3=>some (x3==(46:UInt8))
   else none
  else some Bool.false)=some (pre [46] (t.drop i)):=by
 by_cases h:i<t.length
 ·rw [az (show (i:Int)<len t by unfold len;omega),cond_true,ak (show (0:Int)≤(i:Int) by omega),cond_true,Int.toNat_natCast,List.getElem?_eq_getElem h,Option.bind_some,List.drop_eq_getElem_cons h,Q0]
 ·rw [aD (show len t≤(i:Int) by unfold len;omega),cond_false,List.drop_eq_nil_of_le (by omega)];rfl
theorem SJ (t:List UInt8) (i:Nat):(bif aO (i:Int) (len t) then
    bif aB (0:Int) (i:Int) then
    Option.bind (t[(Int.toNat (i:Int))]?) fun x9=>
    bif (x9==(101:UInt8)) then
     some Bool.true
    else
    bif aB (0:Int) (i:Int) then
    Option.bind (t[(Int.toNat (i:Int))]?) fun x10=>
    some (x10==(69:UInt8))
    else none
    else none
   else
   some Bool.false)=some (Rt (t.drop i)):=by
 by_cases h:i<t.length
 ·rw [az (show (i:Int)<len t by unfold len;omega),cond_true,ak (show (0:Int)≤(i:Int) by omega),cond_true,Int.toNat_natCast,List.getElem?_eq_getElem h,Option.bind_some,List.drop_eq_getElem_cons h]
  simp only [cond_true,Option.bind_some,Rt]
  cases t[i]==101<;>rfl
 ·rw [aD (show len t≤(i:Int) by unfold len;omega),cond_false,List.drop_eq_nil_of_le (by omega)];rfl
theorem R8 (d:List UInt8):(bif (((run d).length:Int) !=len d) then
    some Bool.true
   else
   bif (Go.Iv.aO ((run d).length:Int) (1:Int)) then
    some Bool.true
   else
   some (Go.Iv.aO (9:Int) ((run d).length:Int)))=some (!Fy d):=by
 cases ha:qd d with
 |false=>
  have h1:¬ ((run d).length=d.length):=fun h=>by
   have:=(lf d).1 h
   rw [ha] at this;cases this
  have h2:(((run d).length:Int) !=len d)=true:=by
   rw [bne_iff_ne];unfold len;omega
  have:Fy d=false:=by unfold Fy;rw [ha];simp
  rw [h2,this];rfl
 |true=>
  have h2:(((run d).length:Int) !=len d)=false:=by
   rw [(lf d).2 ha];unfold len;simp
  rw [h2,Nj d ha]
  unfold Fy
  rw [ha,Bool.and_true,cond_false]
  cases d with
  |nil=>rfl
  |cons c r=>
   rw [aD (show (1:Int)≤((c::r).length:Nat) by simp only [List.length_cons];omega),cond_false]
   by_cases h9:(c::r).length≤9
   ·rw [aD (show (((c::r).length:Nat):Int)≤9 by omega),Nat.ble_eq_true_of_le h9];rfl
   ·have:Nat.ble (c::r).length 9=false:=by
     cases hq:Nat.ble (c::r).length 9 with
     |false=>rfl
     |true=>exact absurd (Nat.le_of_ble_eq_true hq) h9
    rw [az (show 9<(((c::r).length:Nat):Int) by omega),this];rfl
theorem SD (v:List UInt8) (h:Rt v=true):∃ c r,v=c::r∧ex v=(bif Fy (fV r).1 then (bif (fV r).2 then -(vf 0 (fV r).1) else vf 0 (fV r).1,true) else (0,false)):=by
 cases v with
 |nil=>cases h
 |cons c r=>
  refine ⟨c,r,rfl,?_⟩
  have:(c !=101 &&c !=69)=false:=by
   simp only [Rt] at h
   rw [bne,bne]
   cases h1:c==101<;>cases h2:c==69<;>rw [h1,h2] at h<;>first |rfl |cases h
  simp only [ex,this,cond_false]
theorem Sz (v:List UInt8) (h:Rt v=false):ex v=(0,v.isEmpty):=by
 cases v with
 |nil=>rfl
 |cons c r=>
  have:(c !=101 &&c !=69)=true:=by
   simp only [Rt] at h
   rw [bne,bne]
   cases h1:c==101<;>cases h2:c==69<;>rw [h1,h2] at h<;>first |rfl |cases h
  simp only [ex,this,cond_true,List.isEmpty_cons]
theorem u5 (n:Nat) (w p:List UInt8) (b:Bool) (e:Int) (he: -1000000000≤e∧e≤1000000000) (hw:w.length≤8100) (hp:p.length≤8100) (hn:27000≤n):
  (bif (room (w.length+p.length)) then
   Option.bind (dy n b (w++p) (Go.IntKind.wrap Go.IntKind.i64 (e - len p))) fun y20=>
   some ((y20.1.1,(y20.1.2.1,(y20.1.2.2.1,y20.1.2.2.2))),Bool.true,())
   else none)=some (norm b (w++p) (e - len p),true,()):=by
 have w2:IntKind.wrap .i64 (e - len p)=e - len p:=by unfold len;rw [ae]<;>omega
 rw [w2,mc n b (w++p) _ (by unfold len;omega) (by unfold len;omega) (by simp;omega) (by simp;omega),dM (show w.length+p.length≤1000000 by omega)]
 rfl
theorem Ds (n:Nat) (t w p:List UInt8) (b:Bool) (j:Nat) (hj:j≤t.length) (ht:t.length≤8100) (hw:w.length≤8100) (hp:p.length≤8100) (hn:27000≤n)
  (hg:((w.isEmpty &&p.isEmpty) ||aO 5000 (len w+len p))=false):
  (Option.bind (bif (Go.Iv.aO (j:Int) (len t)) then
    bif (Go.Iv.aB (0:Int) (j:Int)) then
    Option.bind (t[(Int.toNat (j:Int))]?) fun x9=>
    bif (x9==(101:UInt8)) then
     some Bool.true
    else
    bif (Go.Iv.aB (0:Int) (j:Int)) then
    Option.bind (t[(Int.toNat (j:Int))]?) fun x10=>
    some (x10==(69:UInt8))
    else none
    else none
   else
   some Bool.false) fun b11=>
  bif b11 then
   bif ((Go.Iv.aB (0:Int) (Go.IntKind.wrap Go.IntKind.i64 ((j:Int)+(1:Int)))) &&(Go.Iv.aB (Go.IntKind.wrap Go.IntKind.i64 ((j:Int)+(1:Int))) (len t))) then
   Option.bind (gL n (List.take ((List.length t) - (Int.toNat (Go.IntKind.wrap Go.IntKind.i64 ((j:Int)+(1:Int))))) (List.drop (Int.toNat (Go.IntKind.wrap Go.IntKind.i64 ((j:Int)+(1:Int)))) t))) fun y12=>
   Option.bind (xO n y12.1 (0:Int)) fun y13=>
   Option.bind (bif (y13.2.1 !=(len y12.1)) then
     some Bool.true
    else
    bif (Go.Iv.aO y13.2.1 (1:Int)) then
     some Bool.true
    else
    some (Go.Iv.aO (9:Int) y13.2.1)) fun b15=>
   bif b15 then
    some ((Bool.false,(([]:List UInt8),((0:Int),(0:Int)))),Bool.false,())
   else
   Option.bind (iZ (n+2) t b w p (0:Int) y12.2.1 y13.1 y13.2.1 (0:Int) Bool.false ([]:List UInt8) (0:Int) (0:Int)) fun y19=>
   bif y19.1.2.2.2.2.2.2.1 then
    bif ((len y19.1.2.1) !=(len y19.1.2.1)) then
     some ((Bool.false,(([]:List UInt8),((0:Int),(0:Int)))),Bool.false,())
    else
    bif (room ((List.length y19.1.2.2.2.1)+(List.length y19.1.2.2.2.2.1))) then
    Option.bind (dy n y19.1.2.2.1 (y19.1.2.2.2.1++y19.1.2.2.2.2.1) (Go.IntKind.wrap Go.IntKind.i64 ((Go.IntKind.wrap Go.IntKind.i64 ((0:Int) - y19.1.2.2.2.2.2.1)) - (len y19.1.2.2.2.2.1)))) fun y20=>
    some ((y20.1.1,(y20.1.2.1,(y20.1.2.2.1,y20.1.2.2.2))),Bool.true,())
    else none
   else
   bif ((len y19.1.2.1) !=(len y19.1.2.1)) then
    some ((Bool.false,(([]:List UInt8),((0:Int),(0:Int)))),Bool.false,())
   else
   bif (room ((List.length y19.1.2.2.2.1)+(List.length y19.1.2.2.2.2.1))) then
   Option.bind (dy n y19.1.2.2.1 (y19.1.2.2.2.1++y19.1.2.2.2.2.1) (Go.IntKind.wrap Go.IntKind.i64 (y19.1.2.2.2.2.2.1 - (len y19.1.2.2.2.2.1)))) fun y21=>
   some ((y21.1.1,(y21.1.2.1,(y21.1.2.2.1,y21.1.2.2.2))),Bool.true,())
   else none
   else none
  else
  bif ((j:Int) !=(len t)) then
   some ((Bool.false,(([]:List UInt8),((0:Int),(0:Int)))),Bool.false,())
  else
  bif (room ((List.length w)+(List.length p))) then
  Option.bind (dy n b (w++p) (Go.IntKind.wrap Go.IntKind.i64 ((0:Int) - (len p)))) fun y22=>
  some ((y22.1.1,(y22.1.2.1,(y22.1.2.2.1,y22.1.2.2.2))),Bool.true,())
  else none)=some (tail w p (t.drop j) b):=by
 rw [SJ,Option.bind_some]
 unfold tail
 rw [hg,Bool.or_false]
 cases hE:Rt (t.drop j) with
 |true=>
  obtain ⟨c,r,hv,hx⟩:=SD _ hE
  have hjl:j<t.length:=by
   have:=congrArg List.length hv
   simp only [List.length_drop,List.length_cons] at this;omega
  have hr:t.drop (j+1)=r:=by
   rw [←List.drop_drop,hv];rfl
  have wj:IntKind.wrap .i64 ((j:Int)+1)=((j+1:Nat):Int):=by rw [ae]<;>omega
  have hrl:=congrArg List.length hr
  rw [List.length_drop] at hrl
  have hsl:=ta r
  rw [cond_true,wj,ak (show (0:Int)≤((j+1:Nat):Int) by omega),ak (show ((j+1:Nat):Int)≤len t by unfold len;omega),Bool.and_self,cond_true,Int.toNat_natCast,dA,hr,jq,Option.bind_some]
  rw [hx]
  generalize (fV r).1=d at*
  generalize (fV r).2=m at*
  have hrun:=qb n d 0 (by omega) (by omega) (by omega)
  rw [List.drop_zero,Nat.zero_add] at hrun
  rw [show (0:Int)=((0:Nat):Int) from rfl,hrun,Option.bind_some]
  rw [show ((0:Nat):Int)=(0:Int) from rfl,R8,Option.bind_some]
  cases ho:Fy d with
  |false=>rfl
  |true=>
   unfold Fy at ho
   rw [Bool.and_eq_true,Bool.and_eq_true,Nat.ble_eq] at ho
   have hb:=tL d 0 0 ho.2.2 (by omega) (by simp)
   have hl:=Pp t b w p m d false [] 0 0 ho.2.2 ho.2.1 d.length 0 (n+2) 0 (by omega) (by simp) (by omega)
   rw [List.drop_zero] at hl
   have w0:IntKind.wrap .i64 ((0:Int) - vf 0 d)= -(vf 0 d):=by rw [ae]<;>omega
   have hne:∀ x:Int,(x !=x)=false:=fun x=>by simp
   rw [Nj d ho.2.2,Bool.not_true,cond_false]
   rw [show iZ (n+2) t b w p (0:Int) m d (d.length:Nat) (0:Int) false [] 0 0=_ from hl,Option.bind_some]
   simp only [hne,cond_false,w0,cond_true]
   rw [u5 n w p b _ (by omega) hw hp hn,u5 n w p b _ (by omega) hw hp hn]
   cases m<;>rfl
 |false=>
  rw [cond_false,Sz _ hE]
  by_cases hl:j=t.length
  ·have h1:((j:Int) !=len t)=false:=by subst hl;unfold len;simp
   have h2:(t.drop j).isEmpty=true:=by rw [List.drop_eq_nil_of_le (by omega)];rfl
   rw [h1,cond_false,u5 n w p b 0 (by omega) hw hp hn,h2]
   rfl
  ·have h1:((j:Int) !=len t)=true:=by rw [bne_iff_ne];unfold len;omega
   have h2:(t.drop j).isEmpty=false:=by
    rw [List.drop_eq_getElem_cons (show j<t.length by omega)];rfl
   rw [h1,h2];rfl
end Go.Proofs.YtnddpppljnjmcaaGreatDoor.V
/- Law 5: which texts are numbers. -/
namespace Go.Proofs.YtnddpppljnjmcaaGreatDoor.V
open Go Go.Iv Go.Gv
set_option linter.unusedSimpArgs false
set_option linter.unusedVariables false
set_option maxRecDepth 27000
theorem Ps (s:List UInt8) (h:od s=true):isInf (fV s).1=false:=by
 unfold od at h
 rw [Bool.or_eq_true,Bool.or_eq_true,beq_iff_eq,beq_iff_eq,beq_iff_eq] at h
 rcases h with rfl |rfl |rfl<;>decide
theorem Cf (n:Nat) (s:List UInt8) (hs:s.length≤8100) (hn:27000≤n):A0 n s=some (fl s):=by
 have hsn:=Ps s
 have hsl:=ta s
 unfold A0 fl
 rw [jq]
 rw [Option.bind_some]
 generalize (fV s).1=t at*
 generalize (fV s).2=b at*
 generalize hX:(Option.bind (xO n t (0:Int)) _)=X
 have e:X=some (num t b):=by
  rw [←hX]
  clear hX hsn
  have hr:=pg t
  have h1:=qb n t 0 (by omega) (by omega) (by omega)
  rw [List.drop_zero,Nat.zero_add] at h1
  rw [show xO n t (0:Int)=_ from h1,Option.bind_some]
  unfold num
  generalize hw:run t=w at*
  rw [Rs,Option.bind_some]
  cases hp:pre [46] (t.drop w.length) with
  |true=>
   have hpl:=pc _ _ hp
   simp only [List.length_drop,List.length_singleton] at hpl
   have hr2:=pg (t.drop (w.length+1))
   rw [List.length_drop] at hr2
   have wi:IntKind.wrap .i64 ((w.length:Int)+1)=((w.length+1:Nat):Int):=by rw [ae]<;>omega
   rw [cond_true,cond_true,wi,qb n t (w.length+1) (by omega) (by omega) (by omega),Option.bind_some]
   generalize hq:run (t.drop (w.length+1))=p at*
   have wl:IntKind.wrap .i64 (len w+len p)=len w+len p:=by unfold len;rw [ae]<;>omega
   rw [fe,fe,wl]
   have hB:(bif w.isEmpty then bif p.isEmpty then some Bool.true else some (aO 5000 (len w+len p)) else some (aO 5000 (len w+len p)))=some ((w.isEmpty &&p.isEmpty) ||aO 5000 (len w+len p)):=by
    cases w.isEmpty<;>cases p.isEmpty<;>cases aO 5000 (len w+len p)<;>rfl
   rw [hB,Option.bind_some]
   cases hg:((w.isEmpty &&p.isEmpty) ||aO 5000 (len w+len p)) with
   |true=>
    unfold tail
    rw [hg]
    rw [Bool.or_true];rfl
   |false=>
    rw [cond_false]
    exact Ds n t w p b (w.length+1+p.length) (by omega) (by omega) (by omega) (by omega) hn hg
  |false=>
   rw [cond_false,cond_false]
   have wl:IntKind.wrap .i64 (len w+0)=len w+0:=by unfold len;rw [ae]<;>omega
   rw [fe,wl]
   have hB:(bif w.isEmpty then some Bool.true else some (aO 5000 (len w+0)))=some ((w.isEmpty &&([]:List UInt8).isEmpty) ||aO 5000 (len w+len ([]:List UInt8))):=by
    show _=some ((w.isEmpty &&true) ||aO 5000 (len w+0))
    cases w.isEmpty<;>cases aO 5000 (len w+0)<;>rfl
   rw [hB,Option.bind_some]
   cases hg:((w.isEmpty &&([]:List UInt8).isEmpty) ||aO 5000 (len w+len ([]:List UInt8))) with
   |true=>
    unfold tail
    rw [hg]
    rw [Bool.or_true];rfl
   |false=>
    rw [cond_false]
    have:=Ds n t w [] b w.length (by omega) (by omega) (by omega) (by simp) hn hg
    have w0:IntKind.wrap .i64 (0 - len ([]:List UInt8))=0:=by decide
    rw [w0] at this
    exact this
 rw [e]
 unfold od at hsn
 unfold od isInf Rk QU
 unfold isInf at hsn
 cases h1:t== [46,105,110,102]<;>cases h2:t== [46,73,110,102]<;>cases h3:t== [46,73,78,70]<;>rw [h1,h2,h3] at hsn<;>
 cases h4:s== [46,110,97,110]<;>cases h5:s== [46,78,97,78]<;>cases h6:s== [46,78,65,78]<;>rw [h4,h5,h6] at hsn<;>first |rfl |exact absurd (hsn rfl) (by decide)
end Go.Proofs.YtnddpppljnjmcaaGreatDoor.V
/- Law 19: what JSON tells of a text (the program's). -/
namespace Go.Proofs.YtnddpppljnjmcaaGreatDoor.V
open Go Go.Iv Go.Gv
set_option linter.unusedSimpArgs false
set_option linter.unusedVariables false
set_option maxRecDepth 27000
def Fw:List UInt8:= [(116:UInt8),(97:UInt8),(103:UInt8),(58:UInt8),(121:UInt8),(97:UInt8),(109:UInt8),(108:UInt8),(46:UInt8),(111:UInt8),(114:UInt8),(103:UInt8),(44:UInt8),(50:UInt8),(48:UInt8),(48:UInt8),(50:UInt8),(58:UInt8)]
def CV:List UInt8:=([110,117,108,108]:List UInt8)
def Dk:List UInt8:=([98,111,111,108]:List UInt8)
def Ny:List UInt8:=([105,110,116]:List UInt8)
def vF:List UInt8:=([102,108,111,97,116]:List UInt8)
def SU:List UInt8:=([115,116,114]:List UInt8)
end Go.Proofs.YtnddpppljnjmcaaGreatDoor.V
/- Law 19: what JSON tells of a text (the reference's). -/
namespace Go.Proofs.YtnddpppljnjmcaaGreatDoor.V
open Go Go.Iv Go.Gv
set_option linter.unusedSimpArgs false
set_option linter.unusedVariables false
set_option maxRecDepth 27000
end Go.Proofs.YtnddpppljnjmcaaGreatDoor.V
/- Law 19: tags and values. -/
namespace Go.Proofs.YtnddpppljnjmcaaGreatDoor.V
open Go Go.Iv Go.Gv
set_option linter.unusedSimpArgs false
set_option linter.unusedVariables false
set_option maxRecDepth 27000
def P6 (s:List UInt8):Bool:=s== [] ||(s==([126]:List UInt8) ||(s==([110,117,108,108]:List UInt8) ||(s==([78,117,108,108]:List UInt8) ||s==([78,85,76,76]:List UInt8))))
def Ow (s:List UInt8):Bool:=s==([116,114,117,101]:List UInt8) ||(s==([84,114,117,101]:List UInt8) ||s==([84,82,85,69]:List UInt8))
def Qg (s:List UInt8):Bool:=s==([102,97,108,115,101]:List UInt8) ||(s==([70,97,108,115,101]:List UInt8) ||s==([70,65,76,83,69]:List UInt8))
theorem GD (n:Nat) (s:List UInt8):HT n s=some (P6 s,()):=by
 unfold HT P6
 cases s==([]:List UInt8)<;>cases s==([126]:List UInt8)<;>cases s==([110,117,108,108]:List UInt8)<;>cases s==([78,117,108,108]:List UInt8)<;>rfl
theorem EH (n:Nat) (s:List UInt8):Ak n s=some (Ow s,Ow s ||Qg s,()):=by
 unfold Ak Ow Qg
 cases s==([116,114,117,101]:List UInt8)<;>cases s==([84,114,117,101]:List UInt8)<;>cases s==([84,82,85,69]:List UInt8)<;>cases s==([102,97,108,115,101]:List UInt8)<;>cases s==([70,97,108,115,101]:List UInt8)<;>cases s==([70,65,76,83,69]:List UInt8)<;>rfl
theorem cY (a b:List UInt8):(a==b)=(b==a):=by rw [Bool.eq_iff_iff,beq_iff_eq,beq_iff_eq];exact eq_comm
theorem FK (s:List UInt8) (l:List (List UInt8)) (hl:l.length≤1000):∀ (m k n:Nat),k+m=l.length→m+1≤n→
  py n s (k:Int) l=some (bif (l.drop k).any (· ==s) then .inr ((true,()),(l,())) else .inl ((),(l,()))):=by
 intro m
 induction m with
 |zero=>
  intro k n h hn
  obtain ⟨n,rfl⟩:∃ k,n=k+1:=⟨n - 1,by omega⟩
  simp only [py,len,aD (show ((l.length:Nat):Int)≤(k:Int) by omega),cond_false,List.drop_eq_nil_of_le (show l.length≤k by omega),List.any_nil]
 |succ m ih=>
  intro k n h hn
  obtain ⟨n,rfl⟩:∃ k,n=k+1:=⟨n - 1,by omega⟩
  have hi:k<l.length:=by omega
  have w:IntKind.wrap .i64 ((k:Int)+1)=((k+1:Nat):Int):=by rw [ae]<;>omega
  rw [List.drop_eq_getElem_cons hi,List.any_cons]
  simp only [py,len,az (show (k:Int)<((l.length:Nat):Int) by omega),ak (show (0:Int)≤(k:Int) by omega),Bool.and_self,cond_true,Int.toNat_natCast,List.getElem?_eq_getElem hi,Option.bind_some,w]
  cases l[k]==s with
  |true=>rfl
  |false=>simp only [cond_false,Bool.false_or];exact ih (k+1) n (by omega) (by omega)
theorem F4 (s:List UInt8) (l:List (List UInt8)) (hl:l.length≤1000) (n:Nat) (hn:l.length+1≤n):
  py n s (0:Int) l=some (bif l.any (· ==s) then .inr ((true,()),(l,())) else .inl ((),(l,()))):=by
 have:=FK s l hl l.length 0 n (by omega) hn
 rw [List.drop_zero] at this;exact this
theorem Gu (n:Nat) (s:List UInt8) (hn:10≤n):HP n s=some (P6 s,()):=by
 unfold HP
 rw [F4 s _ (by simp) (n+1) (by simp only [List.length_cons,List.length_nil];omega),Option.bind_some]
 simp only [List.any_cons,List.any_nil,Bool.or_false]
 unfold P6
 rw [cY s [],cY s ([126]:List UInt8),cY s ([110,117,108,108]:List UInt8),cY s ([78,117,108,108]:List UInt8),cY s ([78,85,76,76]:List UInt8)]
 cases ([110,117,108,108]:List UInt8)==s<;>cases ([78,117,108,108]:List UInt8)==s<;>cases ([78,85,76,76]:List UInt8)==s<;>cases ([126]:List UInt8)==s<;>cases ([]:List UInt8)==s<;>rfl
theorem KE (n:Nat) (s:List UInt8) (hn:10≤n):KW n s=some (Ow s,()):=by
 unfold KW
 rw [F4 s _ (by simp) (n+1) (by simp only [List.length_cons,List.length_nil];omega),Option.bind_some]
 simp only [List.any_cons,List.any_nil,Bool.or_false]
 unfold Ow
 rw [cY s ([116,114,117,101]:List UInt8),cY s ([84,114,117,101]:List UInt8),cY s ([84,82,85,69]:List UInt8)]
 cases ([116,114,117,101]:List UInt8)==s<;>cases ([84,114,117,101]:List UInt8)==s<;>cases ([84,82,85,69]:List UInt8)==s<;>rfl
theorem NQ (n:Nat) (s:List UInt8) (hn:10≤n):So n s=some (Qg s,()):=by
 unfold So
 rw [F4 s _ (by simp) (n+1) (by simp only [List.length_cons,List.length_nil];omega),Option.bind_some]
 simp only [List.any_cons,List.any_nil,Bool.or_false]
 unfold Qg
 rw [cY s ([102,97,108,115,101]:List UInt8),cY s ([70,97,108,115,101]:List UInt8),cY s ([70,65,76,83,69]:List UInt8)]
 cases ([102,97,108,115,101]:List UInt8)==s<;>cases ([70,97,108,115,101]:List UInt8)==s<;>cases ([70,65,76,83,69]:List UInt8)==s<;>rfl
def word (l:List UInt8):Prop:=l=CV∨l=Dk∨l=Ny∨l=vF∨l=SU
abbrev Vl:=Int×(Bool×(BL×List UInt8))
def zN:BL:=(false,([],(0,0)))
def Sw:Vl×(Int×Unit):=((0,(false,(zN,[]))),15,())
def val (tag s:List UInt8):Vl×(Int×Unit):=
 bif tag==Fw++CV then bif P6 s then ((1,(false,(zN,[]))),0,()) else Sw else
 bif tag==Fw++Dk then bif Ow s ||Qg s then ((2,(Ow s,(zN,[]))),0,()) else Sw else
 bif tag==Fw++Ny then bif (iv s).2.1 then ((3,(false,((iv s).1,[]))),0,()) else Sw else
 bif tag==Fw++vF then bif (fl s).2.1 then ((4,(false,((fl s).1,[]))),0,()) else bif (iv s).2.1 then ((4,(false,((iv s).1,[]))),0,()) else Sw else
 ((5,(false,(zN,s))),0,())
theorem BZ (n:Nat) (s:List UInt8) (hs:s.length≤8100) (hn:27000≤n):BA n s=some (bif (fl s).2.1 then ((fl s).1,(true,())) else ((iv s).1,((iv s).2.1,()))):=by
 unfold BA
 rw [F8 n s hs hn,Option.bind_some,Ft n s (by omega),Option.bind_some]
 cases (fl s).2.1<;>rfl
theorem kN (n:Nat) (tag s:List UInt8) (hs:s.length≤8100) (hn:27000≤n):qA n tag s=some (val tag s):=by
 unfold qA
 rw [GD,EH,Ft (n+1) s (by omega),BZ n s hs hn]
 simp only [Option.bind_some]
 unfold val
 rw [show Fw++CV=([116,97,103,58,121,97,109,108,46,111,114,103,44,50,48,48,50,58,110,117,108,108]:List UInt8) from rfl,show Fw++Dk=([116,97,103,58,121,97,109,108,46,111,114,103,44,50,48,48,50,58,98,111,111,108]:List UInt8) from rfl,show Fw++Ny=([116,97,103,58,121,97,109,108,46,111,114,103,44,50,48,48,50,58,105,110,116]:List UInt8) from rfl,show Fw++vF=([116,97,103,58,121,97,109,108,46,111,114,103,44,50,48,48,50,58,102,108,111,97,116]:List UInt8) from rfl]
 generalize (tag==([116,97,103,58,121,97,109,108,46,111,114,103,44,50,48,48,50,58,110,117,108,108]:List UInt8))=x1
 generalize (tag==([116,97,103,58,121,97,109,108,46,111,114,103,44,50,48,48,50,58,98,111,111,108]:List UInt8))=x2
 generalize (tag==([116,97,103,58,121,97,109,108,46,111,114,103,44,50,48,48,50,58,105,110,116]:List UInt8))=x3
 generalize (tag==([116,97,103,58,121,97,109,108,46,111,114,103,44,50,48,48,50,58,102,108,111,97,116]:List UInt8))=x4
 generalize iv s=i
 generalize fl s=f
 obtain ⟨⟨i1,i2,i3,i4⟩,i5,i6⟩:=i
 obtain ⟨⟨f1,f2,f3,f4⟩,f5,f6⟩:=f
 cases x1 with
 |true=>cases P6 s<;>rfl
 |false=>
  cases x2 with
  |true=>cases Ow s<;>cases Qg s<;>rfl
  |false=>
   cases x3 with
   |true=>cases i5<;>rfl
   |false=>
    cases x4 with
    |true=>cases f5<;>cases i5<;>rfl
    |false=>rfl
theorem qQ (n:Nat) (tag s:List UInt8) (hs:s.length≤8100) (hn:27000≤n):vM n tag s=some (val tag s):=by
 unfold vM
 rw [KX n s (by omega),Option.bind_some,Cf (n+1) s hs (by omega),Option.bind_some,Gu (n+1) s (by omega),KE (n+1) s (by omega),NQ (n+1) s (by omega)]
 simp only [Option.bind_some]
 unfold val
 rw [show Fw++CV=([116,97,103,58,121,97,109,108,46,111,114,103,44,50,48,48,50,58,110,117,108,108]:List UInt8) from rfl,show Fw++Dk=([116,97,103,58,121,97,109,108,46,111,114,103,44,50,48,48,50,58,98,111,111,108]:List UInt8) from rfl,show Fw++Ny=([116,97,103,58,121,97,109,108,46,111,114,103,44,50,48,48,50,58,105,110,116]:List UInt8) from rfl,show Fw++vF=([116,97,103,58,121,97,109,108,46,111,114,103,44,50,48,48,50,58,102,108,111,97,116]:List UInt8) from rfl]
 generalize (tag==([116,97,103,58,121,97,109,108,46,111,114,103,44,50,48,48,50,58,110,117,108,108]:List UInt8))=x1
 generalize (tag==([116,97,103,58,121,97,109,108,46,111,114,103,44,50,48,48,50,58,98,111,111,108]:List UInt8))=x2
 generalize (tag==([116,97,103,58,121,97,109,108,46,111,114,103,44,50,48,48,50,58,105,110,116]:List UInt8))=x3
 generalize (tag==([116,97,103,58,121,97,109,108,46,111,114,103,44,50,48,48,50,58,102,108,111,97,116]:List UInt8))=x4
 generalize iv s=i
 generalize fl s=f
 obtain ⟨⟨i1,i2,i3,i4⟩,i5,i6⟩:=i
 obtain ⟨⟨f1,f2,f3,f4⟩,f5,f6⟩:=f
 cases x1 with
 |true=>cases P6 s<;>rfl
 |false=>
  cases x2 with
  |true=>cases Ow s<;>cases Qg s<;>rfl
  |false=>
   cases x3 with
   |true=>cases i5<;>rfl
   |false=>
    cases x4 with
    |true=>cases f5<;>cases i5<;>rfl
    |false=>rfl
end Go.Proofs.YtnddpppljnjmcaaGreatDoor.V
/- Equal nodes: what the program tells of two nodes is whether each pair that is come to from them is alike. -/
namespace Go.Proofs.YtnddpppljnjmcaaGreatDoor
open Go Go.Iv Go.Gv V
set_option maxRecDepth 10000
def nv (v:Vl):Vl:=
 if v.1=2 then (2,(v.2.1,(zN,[]))) else
 if v.1=3 then (3,(false,(v.2.2.1,[]))) else
 if v.1=4 then (4,(false,(v.2.2.1,[]))) else
 if v.1=5 then (5,(false,(zN,v.2.2.2))) else (v.1,(false,(zN,[])))
theorem FE {a b:Bool×(List UInt8×(Int×Int))}:(bif (a.1==b.1) then
    bif (a.2.1==b.2.1) then
     bif (a.2.2.1==b.2.2.1) then
      some (a.2.2.2==b.2.2.2)
     else
     some Bool.false
    else
    some Bool.false
   else
   some Bool.false)=some (decide (a=b)):=by
 obtain ⟨a1,a2,a3,a4⟩:=a
 obtain ⟨b1,b2,b3,b4⟩:=b
 simp only [Prod.mk.injEq]
 have dq:∀ {α:Type} [BEq α] [LawfulBEq α] [DecidableEq α] (x y:α),(x==y)=decide (x=y):=by
  intro α _ _ _ x y
  rw [Bool.eq_iff_iff,beq_iff_eq,decide_eq_true_iff]
 rw [dq a1 b1,dq a2 b2,dq a3 b3,dq a4 b4]
 by_cases h1:a1=b1<;>by_cases h2:a2=b2<;>by_cases h3:a3=b3<;>by_cases h4:a4=b4<;>simp [h1,h2,h3,h4]
theorem jd (n:Nat) (v w:Vl):iQ n v w=some (decide (nv v=nv w),()):=by
 unfold iQ
 by_cases h:v.1=w.1
 ·have hb:(v.1 !=w.1)=false:=by simp [h]
  rw [hb,cond_false]
  unfold nv
  rw [←h]
  by_cases h2:v.1=2
  ·have hb:(v.1==(2:Int))=true:=by simp [h2]
   rw [hb,cond_true]
   simp only [h2,if_true,Prod.mk.injEq,_root_.and_true,true_and]
   by_cases ht:v.2.1=w.2.1<;>simp [ht]
  ·have hb:(v.1==(2:Int))=false:=by simp [h2]
   rw [hb,cond_false]
   simp only [if_neg h2]
   by_cases h3:v.1=3
   ·have hb:(v.1==(3:Int))=true:=by simp [h3]
    rw [hb,cond_true,FE,Option.bind_some]
    simp only [h3,if_true,Prod.mk.injEq,_root_.and_true,true_and]
   ·have hb:(v.1==(3:Int))=false:=by simp [h3]
    rw [hb,cond_false]
    simp only [if_neg h3]
    by_cases h4:v.1=4
    ·have hb:(v.1==(4:Int))=true:=by simp [h4]
     rw [hb,cond_true,FE,Option.bind_some]
     simp only [h4,if_true,Prod.mk.injEq,_root_.and_true,true_and]
    ·have hb:(v.1==(4:Int))=false:=by simp [h4]
     rw [hb,cond_false]
     simp only [if_neg h4]
     by_cases h5:v.1=5
     ·have hb:(v.1==(5:Int))=true:=by simp [h5]
      rw [hb,cond_true]
      simp only [h5,if_true,Prod.mk.injEq,true_and]
      by_cases ht:v.2.2.2=w.2.2.2<;>simp [ht]
     ·have hb:(v.1==(5:Int))=false:=by simp [h5]
      rw [hb,cond_false]
      simp only [if_neg h5,decide_true]
 ·have hb:(v.1 !=w.1)=true:=by simp [h]
  rw [hb,cond_true]
  have:nv v≠nv w:=by
   have key:∀ u:Vl,(nv u).1=u.1:=by
    intro u
    unfold nv
    split
    ·simp [*]
    ·split
     ·simp [*]
     ·split
      ·simp [*]
      ·split
       ·simp [*]
       ·rfl
   intro e
   exact h (by rw [←key v,←key w,e])
  rw [decide_eq_false this]
abbrev vD:=Int×(List UInt8×(Nat×Option (Bool×(Vl×List UInt8))))
abbrev Gs:=Bool×(Vl×List UInt8)
instance:DecidableEq BL:=inferInstanceAs (DecidableEq (Bool×(List UInt8×(Int×Int))))
instance:DecidableEq Vl:=inferInstanceAs (DecidableEq (Int×(Bool×(BL×List UInt8))))
instance:DecidableEq Gs:=inferInstanceAs (DecidableEq (Bool×(Vl×List UInt8)))
instance:DecidableEq vD:=inferInstanceAs (DecidableEq (Int×(List UInt8×(Nat×Option Gs))))
def key (x:aK):vD:=
 (x.1,(x.2.1,(x.2.2.2.1.length,if x.1=1 then some (if (val x.2.1 x.2.2.1).2.1=0 then (true,(nv (val x.2.1 x.2.2.1).1,[])) else (false,((0,(false,(zN,[]))),x.2.2.1))) else none)))
theorem FL (n:Nat) (x y:aK) (hx:NB x) (hy:NB y) (hn:27000≤n):alike n x y=some (decide (key x=key y),()):=by
 unfold alike key
 obtain ⟨k,t,s,l,p⟩:=x
 obtain ⟨k',t',s',l',p'⟩:=y
 have hs:s.length≤8100:=hx.2.1
 have hs':s'.length≤8100:=hy.2.1
 simp only [len]
 by_cases h1:k=k'
 ·subst h1
  have hb:(k !=k)=false:=by simp
  rw [hb,cond_false]
  by_cases h2:t=t'
  ·subst h2
   have hb:(!(t==t))=false:=by simp
   rw [hb,cond_false]
   by_cases h3:l.length=l'.length
   ·have hb:(((l.length:Nat):Int) !=(l'.length:Nat))=false:=by simp [h3]
    simp only [hb,Option.bind_some,cond_false]
    simp only [h3,Prod.mk.injEq,true_and]
    by_cases h4:k=1
    ·have hb:(k !=(1:Int))=false:=by simp [h4]
     simp only [hb,cond_false,if_pos h4,Option.some.injEq]
     rw [kN n t s hs hn,kN n t s' hs' hn]
     simp only [Option.bind_some]
     by_cases e:(val t s).2.1=0
     ·by_cases f:(val t s').2.1=0
      ·simp only [e,f,beq_self_eq_true,cond_true,Option.bind_some,jd,if_true,Prod.mk.injEq,true_and,_root_.and_true]
      ·have hf:((val t s').2.1==(0:Int))=false:=by simp [f]
       simp only [e,hf,beq_self_eq_true,cond_true,Option.bind_some,cond_false,if_true,if_neg f,Prod.mk.injEq,Bool.true_eq_false,false_and,decide_false]
       have:s≠s':=by rintro rfl;exact f e
       simp [this]
     ·have he:((val t s).2.1==(0:Int))=false:=by simp [e]
      simp only [he,cond_false,Option.bind_some,if_neg e]
      by_cases f:(val t s').2.1=0
      ·simp only [if_pos f,Prod.mk.injEq,Bool.false_eq_true,false_and,decide_false]
       have:s≠s':=by rintro rfl;exact e f
       simp [this]
      ·simp only [if_neg f,Prod.mk.injEq,true_and]
       by_cases g:s=s'<;>simp [g]
    ·have hb:(k !=(1:Int))=true:=by simp [h4]
     simp only [hb,cond_true,if_neg h4,decide_true]
   ·have hb:(((l.length:Nat):Int) !=(l'.length:Nat))=true:=by simp;omega
    simp only [hb,Option.bind_some,cond_true,Prod.mk.injEq,h3,false_and,and_false,decide_false]
  ·have hb:(!(t==t'))=true:=by simp [h2]
   simp only [hb,cond_true,Option.bind_some,Prod.mk.injEq,h2,false_and,and_false,decide_false]
 ·have hb:(k !=k')=true:=by simp [h1]
  simp only [hb,cond_true,Option.bind_some,Prod.mk.injEq,h1,false_and,decide_false]
end Go.Proofs.YtnddpppljnjmcaaGreatDoor
/- Equal nodes: the loops. -/
namespace Go.Proofs.YtnddpppljnjmcaaGreatDoor
open Go Go.Iv Go.Gv
set_option maxRecDepth 10000
abbrev bC:=Int×Int
def nd (g1:List aK) (a:Int):aK:=(g1[a.toNat]?).getD (0,([],([],([],false))))
def kd (g1:List aK) (a:Int):List Int:=(nd g1 a).2.2.2.1
def Step (g1:List aK) (p q:bC):Prop:=p.1≠p.2∧q∈(kd g1 p.1).zip (kd g1 p.2)
inductive FA (g1:List aK) (p:bC):bC→Prop
 |refl:FA g1 p p
 |step {q r:bC}:FA g1 p q→Step g1 q r→FA g1 p r
def LN (g1:List aK) (p:bC):Prop:=p.1=p.2∨key (nd g1 p.1)=key (nd g1 p.2)
def jO (g1:List aK) (a b:Int):Prop:=∀ p,FA g1 (a,b) p→LN g1 p
abbrev KS:Sh:= .cons (.int .i64) (.int .i64)
def Oq (S:List bC):List (bC×Bool):=S.map fun p=>(p,true)
theorem CY (x y:bC):KS.ie x y=decide (x=y):=by
 obtain ⟨a,b⟩:=x
 obtain ⟨c,d⟩:=y
 show ((a==c) &&(b==d))=_
 simp only [Prod.mk.injEq]
 by_cases h1:a=c<;>by_cases h2:b=d<;>simp [h1,h2]
theorem PN (S:List bC) (q:bC):c8 KS (Oq S) q false=decide (q∈S):=by
 induction S with
 |nil=>rfl
 |cons p r ih=>
  unfold c8 at ih ⊢
  simp only [Oq,List.map_cons,cD,CY]
  by_cases h:q=p
  ·simp [h]
  ·simp only [h,decide_false,cond_false,List.mem_cons,false_or]
   exact ih
theorem Ra (S:List bC) (q:bC) (h:q∉S):cE KS (Oq S) q true=Oq (S++ [q]):=by
 induction S with
 |nil=>rfl
 |cons p r ih=>
  simp only [List.mem_cons,not_or] at h
  simp only [Oq,List.map_cons,cE,CY,h.1,decide_false,cond_false,List.cons_append]
  have:=ih h.2
  simp only [Oq] at this
  rw [this]
def news:List bC→List bC→List bC
 | [],_=> []
 |q::r,S=>if q∈S then news r S else q::news r (S++ [q])
theorem D3:∀ {z S:List bC} {q:bC},q∈news z S→q∈z∧q∉S:=by
 intro z
 induction z with
 |nil=>intro S q h;cases h
 |cons p r ih=>
  intro S q h
  unfold news at h
  split at h
  ·have:=ih h;exact ⟨List.mem_cons_of_mem _ this.1,this.2⟩
  ·rename_i hp
   rcases List.mem_cons.1 h with rfl |h
   ·exact ⟨List.mem_cons_self,hp⟩
   ·have:=ih h
    exact ⟨List.mem_cons_of_mem _ this.1,fun hq=>this.2 (List.mem_append_left _ hq)⟩
theorem N0:∀ {z S:List bC} {q:bC},q∈z→q∈S++news z S:=by
 intro z
 induction z with
 |nil=>intro S q h;cases h
 |cons p r ih=>
  intro S q h
  unfold news
  rcases List.mem_cons.1 h with rfl |h
  ·split
   ·rename_i hp;exact List.mem_append_left _ hp
   ·simp
  ·split
   ·exact ih h
   ·have:=ih (S:=S++ [p]) h
    simpa using this
theorem G6:∀ {z S:List bC},S.Nodup→(S++news z S).Nodup:=by
 intro z
 induction z with
 |nil=>intro S h;simpa [news] using h
 |cons p r ih=>
  intro S h
  unfold news
  split
  ·exact ih h
  ·rename_i hp
   have h2:(S++ [p]).Nodup:=by
    rw [List.nodup_append]
    refine ⟨h,by simp,fun a ha b hb e=>?_⟩
    simp at hb
    subst hb
    subst e
    exact hp ha
   have:=ih h2
   simpa using this
theorem Jw (l1 l2:List Int) (hl:l1.length=l2.length) (hb:l1.length≤1000) (c0:List aK) (c1:List Int) (k2:Int) (t2 s2:List UInt8) (b2:Bool):
  ∀ (m i n:Nat) (w S:List bC),i+m=l1.length→m+1≤n→w.length+m≤1000000→
  mR n w l1 (l1.length:Int) (i:Int) c0 c1 (Oq S) k2 t2 s2 l2 b2=
   some (((),((),(w++news ((l1.zip l2).drop i) S,()))),((c0,(c1,())),(((),()),(Oq (S++news ((l1.zip l2).drop i) S),((k2,(t2,(s2,(l2,(b2,()))))),()))))):=by
 intro m
 induction m with
 |zero=>
  intro i n w S hi hn hw
  obtain ⟨n,rfl⟩:∃ k,n=k+1:=⟨n - 1,by omega⟩
  have hz:(l1.zip l2).drop i= []:=by rw [List.drop_eq_nil_iff,List.length_zip];omega
  simp only [mR,aD (show (l1.length:Int)≤i by omega),cond_false,hz,news,List.append_nil]
 |succ m ih=>
  intro i n w S hi hn hw
  obtain ⟨n,rfl⟩:∃ k,n=k+1:=⟨n - 1,by omega⟩
  have e0:(Int.toNat (i:Int))=i:=rfl
  have hx1:l1[i]? =some l1[i]:=List.getElem?_eq_getElem (by omega)
  have hx2 : l2[i]? = some (l2[i]'(by omega)) := List.getElem?_eq_getElem (by omega)
  have hz : (l1.zip l2).drop i = (l1[i], l2[i]'(by omega)) :: (l1.zip l2).drop (i + 1) := by
   rw [List.drop_eq_getElem_cons (by rw [List.length_zip];omega),List.getElem_zip]
  have w0:IntKind.wrap .i64 ((i:Int)+1)=((i+1:Nat):Int):=by rw [ae]<;>omega
  generalize l1[i]=u at hx1 hz
  generalize l2[i]'(by omega) = v at hx2 hz
  rw [hz]
  simp only [mR,az (show (i:Int)<l1.length by omega),ak (show (0:Int)≤i by omega),cond_true,e0,hx1,hx2,Option.bind_some,w0,PN,news]
  by_cases hm:(u,v)∈S
  ·rw [decide_eq_true hm,cond_true,if_pos hm]
   exact ih (i+1) n w S (by omega) (by omega) (by omega)
  ·rw [decide_eq_false hm,cond_false,if_neg hm,dM (by simp;omega),cond_true,Ra S _ hm]
   rw [ih (i+1) n (w++ [(u,v)]) (S++ [(u,v)]) (by omega) (by omega) (by simp;omega)]
   simp only [List.append_assoc,List.cons_append,List.nil_append]
theorem dQ:∀ {S L:List bC},S.Nodup→(∀ p∈S,p∈L)→S.length≤L.length:=by
 intro S
 induction S with
 |nil=>intro L _ _;exact Nat.zero_le _
 |cons p r ih=>
  intro L hn hs
  rw [List.nodup_cons] at hn
  have hp:p∈L:=hs p List.mem_cons_self
  have h1:=ih (L:=L.erase p) hn.2 fun q hq=>by
   have hne:q≠p:=fun e=>hn.1 (e▸hq)
   exact (List.mem_erase_of_ne hne).2 (hs q (List.mem_cons_of_mem _ hq))
  have h2:=List.length_erase_of_mem hp
  have h3:0<L.length:=List.length_pos_of_mem hp
  simp only [List.length_cons]
  omega
def D4 (N:Nat):List bC:=(List.range N).flatMap fun (i:Nat)=>(List.range N).map fun (j:Nat)=>((i:Int),(j:Int))
theorem KT (c:Nat):∀ l:List Nat,(l.map fun _=>c).sum=l.length*c:=by
 intro l
 induction l with
 |nil=>simp
 |cons a r ih=>rw [List.map_cons,List.sum_cons,ih,List.length_cons,Nat.add_mul];omega
theorem pj (N:Nat):(D4 N).length=N*N:=by
 unfold D4
 rw [List.length_flatMap]
 simp only [List.length_map,List.length_range]
 rw [KT,List.length_range]
theorem jT {N:Nat} {p:bC} (h1:gE N p.1=true) (h2:gE N p.2=true):p∈D4 N:=by
 have h1:=of_decide_eq_true h1
 have h2:=of_decide_eq_true h2
 unfold D4
 rw [List.mem_flatMap]
 refine ⟨p.1.toNat,by rw [List.mem_range];omega,?_⟩
 rw [List.mem_map]
 refine ⟨p.2.toNat,by rw [List.mem_range];omega,?_⟩
 exact Prod.ext (by show ((p.1.toNat:Nat):Int)=p.1;omega) (by show ((p.2.toNat:Nat):Int)=p.2;omega)
structure Inv (g1:List aK) (a b:Int) (w S:List bC):Prop where
 nd:S.Nodup
 S1:w.Nodup
 Fv:∀ p∈S,gE g1.length p.1=true∧gE g1.length p.2=true
 Nf:∀ p∈S,FA g1 (a,b) p
 sub:∀ p∈w,p∈S
 M6:∀ p∈S,p∉w→LN g1 p∧∀ q,Step g1 p q→q∈S
 top:(a,b)∈S
def uu (g1:List aK):Prop:=∀ x∈g1,x.2.2.2.1.all (gE g1.length)=true
theorem BJ {g1:List aK} {a:Int} (h:gE g1.length a=true):∃ x,g1[a.toNat]? =some x∧nd g1 a=x∧x∈g1:=by
 have h:=of_decide_eq_true h
 have hx : g1[a.toNat]? = some (g1[a.toNat]'(by omega)) := List.getElem?_eq_getElem (by omega)
 exact ⟨_,hx,by unfold nd;rw [hx];rfl,List.getElem_mem _⟩
theorem Inv.done {g1:List aK} {a b:Int} {S:List bC} (h:Inv g1 a b [] S):jO g1 a b:=by
 have key:∀ p,FA g1 (a,b) p→p∈S:=by
  intro p hp
  induction hp with
  |refl=>exact h.top
  |step _ hs ih=>exact (h.M6 _ ih (by simp)).2 _ hs
 intro p hp
 exact (h.M6 p (key p hp) (by simp)).1
theorem LD (g1:List aK) (g2:List Int) (a b:Int) (hN:g1.length≤60) (hb:∀ x∈g1,NB x) (hk:uu g1):∀ (m n:Nat) (w S:List bC),Inv g1 a b w S→g1.length*g1.length+w.length=S.length+m→m+28000≤n→
  ∃ T,rm n w g1 g2 (Oq S)=some T∧(match T with
   | .inl _=>jO g1 a b
   | .inr y=>y.1.1=false∧¬ jO g1 a b):=by
 intro m
 induction m using Nat.strongRecOn with
 |ind m ih=>
  intro n w S hI hm hn
  obtain ⟨n,rfl⟩:∃ k,n=k+1:=⟨n - 1,by omega⟩
  have hSl:S.length≤g1.length*g1.length:=by
   have:=dQ hI.nd (L:=D4 g1.length) fun p hp=>jT (hI.Fv p hp).1 (hI.Fv p hp).2
   rwa [pj] at this
  have hwl:w.length≤S.length:=dQ hI.S1 hI.sub
  have hNN:g1.length*g1.length≤60*60:=Nat.mul_le_mul hN hN
  by_cases hw:w= []
  ·subst hw
   have z:Go.Iv.aO (0:Int) (len ([]:List bC))=false:=aD (by simp [len])
   simp only [rm,z,cond_false]
   exact ⟨_,rfl,hI.done⟩
  ·obtain ⟨w,p,rfl⟩:∃ u p,w=u++ [p]:=⟨w.dropLast,w.getLast hw,(List.dropLast_concat_getLast hw).symm⟩
   have hpS:p∈S:=hI.sub p (by simp)
   obtain ⟨hr1,hr2⟩:=hI.Fv p hpS
   obtain ⟨x,hx,ex,hxm⟩:=BJ hr1
   obtain ⟨y,hy,ey,hym⟩:=BJ hr2
   have d1:=of_decide_eq_true hr1
   have d2:=of_decide_eq_true hr2
   simp only [List.length_append,List.length_cons,List.length_nil,Nat.zero_add] at hm hwl
   have hlen:len (w++ [p])=((w.length+1:Nat):Int):=by simp [len]
   have w0:IntKind.wrap .i64 (((w.length+1:Nat):Int) - 1)=(w.length:Int):=by rw [ae]<;>omega
   have hg:(w++ [p])[w.length]? =some p:=by simp
   have ht:List.take (w.length - 0) (List.drop 0 (w++ [p]))=w:=by simp
   have hpw:p∉w:=by
    have:=hI.S1
    rw [List.nodup_append] at this
    exact fun h=>this.2.2 p h p (by simp) rfl
   have hwnd:w.Nodup:=by
    have:=hI.S1
    rw [List.nodup_append] at this
    exact this.1
   simp only [rm,hlen,w0,az (show (0:Int)<((w.length+1:Nat):Int) by omega),ak (show (0:Int)≤(w.length:Int) by omega),az (show (w.length:Int)<((w.length+1:Nat):Int) by omega),ak (show (w.length:Int)≤((w.length+1:Nat):Int) by omega),Bool.and_self,cond_true,Int.toNat_natCast,hg,Option.bind_some,ak d1.1,ak d2.1,hx,hy,ht]
   by_cases he:p.1=p.2
   ·have hb1:(p.1==p.2)=true:=by simp [he]
    rw [hb1,cond_true]
    refine ih (m - 1) (by omega) n w S ⟨hI.nd,hwnd,hI.Fv,hI.Nf,fun q hq=>hI.sub q (by simp [hq]),fun q hq hqw=>?_,hI.top⟩ (by omega) (by omega)
    by_cases hqp:q=p
    ·subst hqp
     exact ⟨.inl he,fun r hr=>absurd he hr.1⟩
    ·exact hI.M6 q hq (by simp [hqw,hqp])
   ·have hb1:(p.1==p.2)=false:=by simp [he]
    rw [hb1,cond_false,FL (n+1) _ _ (hb x hxm) (hb y hym) (by omega),Option.bind_some]
    by_cases hkk:key x=key y
    ·rw [decide_eq_true hkk]
     have hll:x.2.2.2.1.length=y.2.2.2.1.length:=by
      have:=congrArg (fun k:vD=>k.2.2.1) hkk
      exact this
     have hxb:=(hb x hxm).2.2
     have hpl:=Jw x.2.2.2.1 y.2.2.2.1 hll (by omega) g1 g2 y.1 y.2.1 y.2.2.1 y.2.2.2.2 x.2.2.2.1.length 0 (n+9) w S (by omega) (by omega) (by omega)
     simp only [Int.natCast_zero,List.drop_zero] at hpl
     simp only [Bool.not_true,cond_false,len]
     rw [hpl,Option.bind_some]
     simp only []
     have hst:∀ q,q∈(x.2.2.2.1).zip (y.2.2.2.1)→Step g1 p q:=fun q hq=>⟨he,by unfold kd;rw [ex,ey];exact hq⟩
     have hnr:∀ q∈news ((x.2.2.2.1).zip (y.2.2.2.1)) S,gE g1.length q.1=true∧gE g1.length q.2=true:=fun q hq=>by
      have h1:=(D3 hq).1
      obtain ⟨q1,q2⟩:=q
      have h2:=List.of_mem_zip h1
      exact ⟨List.all_eq_true.1 (hk x hxm) _ h2.1,List.all_eq_true.1 (hk y hym) _ h2.2⟩
     have hnd:=G6 (z:=(x.2.2.2.1).zip (y.2.2.2.1)) hI.nd
     have hI2:Inv g1 a b (w++news ((x.2.2.2.1).zip (y.2.2.2.1)) S) (S++news ((x.2.2.2.1).zip (y.2.2.2.1)) S):=by
      refine ⟨hnd,?_,fun q hq=>?_,fun q hq=>?_,fun q hq=>?_,fun q hq hqw=>?_,List.mem_append_left _ hI.top⟩
      ·rw [List.nodup_append] at hnd ⊢
       exact ⟨hwnd,hnd.2.1,fun u hu v hv=>hnd.2.2 u (hI.sub u (by simp [hu])) v hv⟩
      ·rcases List.mem_append.1 hq with hq |hq
       ·exact hI.Fv q hq
       ·exact hnr q hq
      ·rcases List.mem_append.1 hq with hq |hq
       ·exact hI.Nf q hq
       ·exact .step (hI.Nf p hpS) (hst q (D3 hq).1)
      ·rcases List.mem_append.1 hq with hq |hq
       ·exact List.mem_append_left _ (hI.sub q (by simp [hq]))
       ·exact List.mem_append_right _ hq
      ·simp only [List.mem_append,not_or] at hqw
       rcases List.mem_append.1 hq with hq |hq
       ·by_cases hqp:q=p
        ·subst hqp
         refine ⟨.inr (by rw [ex,ey];exact hkk),fun r hr=>?_⟩
         have hr2:=hr.2
         unfold kd at hr2
         rw [ex,ey] at hr2
         exact N0 hr2
        ·obtain ⟨h1,h2⟩:=hI.M6 q hq (by simp [hqw.1,hqp])
         exact ⟨h1,fun r hr=>List.mem_append_left _ (h2 r hr)⟩
       ·exact absurd hq hqw.2
     have hSl2:(S++news ((x.2.2.2.1).zip (y.2.2.2.1)) S).length≤g1.length*g1.length:=by
      have:=dQ hI2.nd (L:=D4 g1.length) fun p hp=>jT (hI2.Fv p hp).1 (hI2.Fv p hp).2
      rwa [pj] at this
     refine ih (m - 1) (by omega) n _ _ hI2 (by simp only [List.length_append] at hSl2 ⊢;omega) (by omega)
    ·rw [decide_eq_false hkk]
     simp only [Bool.not_false,cond_true]
     refine ⟨_,rfl,rfl,fun hE=>?_⟩
     rcases hE p (hI.Nf p hpS) with h1 |h1
     ·exact he h1
     ·rw [ex,ey] at h1;exact hkk h1
theorem rJ (n:Nat) (g:bk) (a b:Int) (hN:g.1.length≤60) (hb:∀ x∈g.1,NB x) (hk:uu g.1) (ha:gE g.1.length a=true) (hb2:gE g.1.length b=true) (hn:32000≤n):
  ∃ r,ij n g a b=some (r,())∧(r=true↔jO g.1 a b):=by
 have hI:Inv g.1 a b [(a,b)] [(a,b)]:=by
  refine ⟨by simp,by simp,fun p hp=>?_,fun p hp=>?_,fun p hp=>hp,fun p hp h=>absurd hp h,by simp⟩
  ·simp at hp;subst hp;exact ⟨ha,hb2⟩
  ·simp at hp;subst hp;exact .refl
 have hNN:g.1.length*g.1.length≤60*60:=Nat.mul_le_mul hN hN
 obtain ⟨T,h1,h2⟩:=LD g.1 g.2 a b hN hb hk (g.1.length*g.1.length) n [(a,b)] [(a,b)] hI (by simp;omega) (by omega)
 unfold ij
 have hm:cE KS [] (a,b) Bool.true=Oq [(a,b)]:=rfl
 show ∃ r,(Option.bind (rm n [(a,b)] g.1 g.2 (cE KS [] (a,b) Bool.true)) fun y21=>_)=some (r,())∧_
 rw [hm,h1,Option.bind_some]
 cases T with
 |inl y=>exact ⟨true,rfl,by simp [h2]⟩
 |inr y=>
  simp only at h2
  refine ⟨y.1.1,rfl,?_⟩
  rw [h2.1]
  simp [h2.2]
end Go.Proofs.YtnddpppljnjmcaaGreatDoor
/- Equal nodes: the laws. -/
namespace Go.Proofs.YtnddpppljnjmcaaGreatDoor
open Go Go.Iv Go.Gv
set_option maxRecDepth 10000
theorem jO.refl (g1:List aK) (a:Int):jO g1 a a:=by
 have key:∀ p,FA g1 (a,a) p→p=(a,a):=by
  intro p hp
  induction hp with
  |refl=>rfl
  |step _ hs ih=>subst ih;exact absurd rfl hs.1
 intro p hp
 rw [key p hp];exact .inl rfl
def Tk (g1:List aK) (R:Int→Int→Prop):Prop:=∀ x y,R x y→x=y∨(key (nd g1 x)=key (nd g1 y)∧∀ q∈(kd g1 x).zip (kd g1 y),R q.1 q.2)
theorem jO.SP {g1:List aK} {a b:Int} (h:jO g1 a b):∃ R,R a b∧Tk g1 R:=by
 refine ⟨fun x y=>FA g1 (a,b) (x,y),.refl,fun x y hr=>?_⟩
 by_cases he:x=y
 ·exact .inl he
 ·refine .inr ⟨?_,fun q hq=> .step hr ⟨he,hq⟩⟩
  rcases h _ hr with h1 |h1
  ·exact absurd h1 he
  ·exact h1
theorem jO.of {g1:List aK} {a b:Int} {R:Int→Int→Prop} (h0:R a b) (h:Tk g1 R):jO g1 a b:=by
 have key:∀ p,FA g1 (a,b) p→R p.1 p.2:=by
  intro p hp
  induction hp with
  |refl=>exact h0
  |step _ hs ih=>
   rcases h _ _ ih with h1 |h1
   ·exact absurd h1 hs.1
   ·exact h1.2 _ hs.2
 intro p hp
 rcases h _ _ (key p hp) with h1 |h1
 ·exact .inl h1
 ·exact .inr h1.1
theorem G2 {l k:List Int} {q:Int×Int} (h:q∈l.zip k):∃ i:Nat,∃ h1:i<l.length,∃ h2:i<k.length,q=(l[i],k[i]):=by
 obtain ⟨i,hi,e⟩:=List.mem_iff_getElem.1 h
 rw [List.length_zip] at hi
 refine ⟨i,by omega,by omega,?_⟩
 rw [←e,List.getElem_zip]
theorem G7 {l k:List Int} {i:Nat} (h1:i<l.length) (h2:i<k.length):(l[i],k[i])∈l.zip k:=by
 rw [List.mem_iff_getElem]
 exact ⟨i,by rw [List.length_zip];omega,by rw [List.getElem_zip]⟩
theorem HO {x y:aK} (h:key x=key y):x.2.2.2.1.length=y.2.2.2.1.length:=congrArg (fun k:vD=>k.2.2.1) h
theorem jO.symm {g1:List aK} {a b:Int} (h:jO g1 a b):jO g1 b a:=by
 obtain ⟨R,h0,hR⟩:=h.SP
 refine jO.of (R:=fun x y=>R y x) h0 fun x y hr=>?_
 rcases hR _ _ hr with h1 |⟨h1,h2⟩
 ·exact .inl h1.symm
 ·refine .inr ⟨h1.symm,fun q hq=>?_⟩
  obtain ⟨i,i1,i2,rfl⟩:=G2 hq
  exact h2 _ (G7 i2 i1)
theorem jO.trans {g1:List aK} {a b c:Int} (h:jO g1 a b) (k:jO g1 b c):jO g1 a c:=by
 obtain ⟨R,r0,hR⟩:=h.SP
 obtain ⟨S,s0,hS⟩:=k.SP
 refine jO.of (R:=fun x z=>R x z∨S x z∨∃ y,R x y∧S y z) (.inr (.inr ⟨b,r0,s0⟩)) fun x z hr=>?_
 have left:∀ {x z},R x z→x=z∨(key (nd g1 x)=key (nd g1 z)∧∀ q∈(kd g1 x).zip (kd g1 z),(R q.1 q.2∨S q.1 q.2∨∃ y,R q.1 y∧S y q.2)):=fun hr=>by
  rcases hR _ _ hr with h1 |⟨h1,h2⟩
  ·exact .inl h1
  ·exact .inr ⟨h1,fun q hq=> .inl (h2 q hq)⟩
 have right:∀ {x z},S x z→x=z∨(key (nd g1 x)=key (nd g1 z)∧∀ q∈(kd g1 x).zip (kd g1 z),(R q.1 q.2∨S q.1 q.2∨∃ y,R q.1 y∧S y q.2)):=fun hr=>by
  rcases hS _ _ hr with h1 |⟨h1,h2⟩
  ·exact .inl h1
  ·exact .inr ⟨h1,fun q hq=> .inr (.inl (h2 q hq))⟩
 rcases hr with hr |hr |⟨y,h1,h2⟩
 ·exact left hr
 ·exact right hr
 ·rcases hR _ _ h1 with e |⟨k1,r1⟩
  ·subst e;exact right h2
  ·rcases hS _ _ h2 with e |⟨k2,r2⟩
   ·subst e;exact left h1
   ·refine .inr ⟨k1.trans k2,fun q hq=>?_⟩
    obtain ⟨i,i1,i2,rfl⟩:=G2 hq
    have i3:i<(kd g1 y).length:=by
     have:=HO k1
     unfold kd at i1 ⊢;omega
    exact .inr (.inr ⟨(kd g1 y)[i],r1 ((kd g1 x)[i],(kd g1 y)[i]) (G7 i1 i3),r2 ((kd g1 y)[i],(kd g1 z)[i]) (G7 i3 i2)⟩)
theorem FA.from {g1:List aK} {p q r:bC} (h:FA g1 p q) (k:FA g1 q r):FA g1 p r:=by
 induction k with
 |refl=>exact h
 |step _ hs ih=>exact .step ih hs
theorem jO.kids {g1:List aK} {a b:Int} (h:jO g1 a b) {q:bC} (hq:q∈(kd g1 a).zip (kd g1 b)):jO g1 q.1 q.2:=by
 by_cases he:a=b
 ·subst he
  obtain ⟨i,i1,i2,rfl⟩:=G2 hq
  exact jO.refl _ _
 ·exact fun p hp=>h p (FA.from (.step .refl ⟨he,hq⟩) hp)
theorem jO.len {g1:List aK} {a b:Int} (h:jO g1 a b):(kd g1 a).length=(kd g1 b).length:=by
 rcases h _ .refl with h1 |h1
 ·rw [show a=b from h1]
 ·exact HO h1
open Classical in
noncomputable def tf (g1:List aK) (a b:Int):Bool:=decide (jO g1 a b)
theorem Jh {g1:List aK} {a b:Int} (h:jO g1 a b):tf g1 a b=true:=by classical unfold tf;exact decide_eq_true h
theorem tw {g1:List aK} {a b:Int} (h:tf g1 a b=true):jO g1 a b:=by classical unfold tf at h;exact of_decide_eq_true h
structure sQ (g:bk):Prop where
 gb:GB g
 r:eI g=true
theorem sQ.kids {g:bk} (h:sQ g):uu g.1:=fun x hx=>by
 have h1:=h.r
 unfold eI at h1
 have h2:=List.all_eq_true.1 (Go.Gv.and_true h1).2 x hx
 exact (Go.Gv.and_true h2).2
theorem zb (n:Nat) (g:bk) (a:Int) (hg:GB g) (hn:20000≤n):LA n g a=some (eI g &&gE g.1.length a,()):=by
 unfold LA
 rw [show ((g.1,g.2):bk)=g from rfl,oR n g hg hn,Option.bind_some]
 cases eI g with
 |false=>rfl
 |true=>
  simp only [cond_true,Bool.true_and,gE,len]
  by_cases h1:(0:Int)≤a
  ·rw [ak h1,cond_true]
   by_cases h2:a<(g.1.length:Int)
   ·rw [az h2,decide_eq_true ⟨h1,h2⟩]
   ·rw [aD (by omega),decide_eq_false (by omega)]
  ·rw [gO (by omega),decide_eq_false (by omega)];rfl
theorem mQ (n:Nat) (g:bk) (a b:Int) (hg:sQ g) (ha:gE g.1.length a=true) (hb:gE g.1.length b=true) (hn:40000≤n):cH n g a b=some (tf g.1 a b,()):=by
 obtain ⟨r,h1,h2⟩:=rJ n g a b hg.gb.n hg.gb.b hg.kids ha hb (by omega)
 have d1:=of_decide_eq_true ha
 have d2:=of_decide_eq_true hb
 unfold cH
 rw [show ((g.1,g.2):bk)=g from rfl]
 simp only [len,ak d1.1,az d1.2,ak d2.1,az d2.2,cond_true]
 rw [tn (n+2) g hg.gb (by omega),Option.bind_some,hg.r]
 simp only [cond_true]
 rw [h1,Option.bind_some]
 have:r=tf g.1 a b:=by
  cases hr:r with
  |true=>exact (Jh (h2.1 hr)).symm
  |false=>
   cases he:tf g.1 a b with
   |false=>rfl
   |true=>rw [h2.2 (tw he)] at hr;cases hr
 rw [this]
def tI:List UInt8:= [116,97,103,58,121,97,109,108,46,111,114,103,44,50,48,48,50,58,105,110,116]
def tS:List UInt8:= [116,97,103,58,121,97,109,108,46,111,114,103,44,50,48,48,50,58,115,116,114]
def aG:bk:=([(1,(tI,([49],([],false)))),(1,(tI,([48,120,49],([],false)))),(1,(tS,([49],([],false))))],[])
theorem IL:sQ aG:=by
 refine ⟨⟨by decide,by decide,fun x hx=>?_,by decide⟩,by decide+kernel⟩
 have:x=(1,(tI,([49],([],false))))∨x=(1,(tI,([48,120,49],([],false))))∨x=(1,(tS,([49],([],false)))):=by simpa [aG] using hx
 rcases this with rfl |rfl |rfl<;>exact ⟨by decide,by decide,by decide⟩
theorem GS (n:Nat) (hn:40000≤n):alive n=some (true,()):=by
 have h1:=mQ n aG 0 1 IL (by decide) (by decide) hn
 have h2:=mQ n aG 0 2 IL (by decide) (by decide) hn
 have e1:tf aG.1 0 1=true:=by
  refine Jh (jO.of (R:=fun x y=>x=0∧y=1) ⟨rfl,rfl⟩ ?_)
  rintro x y ⟨rfl,rfl⟩
  refine .inr ⟨by decide+kernel,fun q hq=>?_⟩
  have:(kd aG.1 0).zip (kd aG.1 1)= []:=by decide
  rw [this] at hq;cases hq
 have e2:tf aG.1 0 2=false:=by
  cases h:tf aG.1 0 2 with
  |false=>rfl
  |true=>
   rcases tw h _ .refl with h3 |h3
   ·exact absurd h3 (by decide)
   ·have h4:=congrArg (fun k:vD=>k.2.1) h3
    exact absurd h4 (by decide)
 show (Option.bind (cH n aG 0 1) fun y0=>bif y0.1 then Option.bind (cH n aG 0 2) fun y1=>some ((!y1.1),()) else some (false,()))=some (true,())
 rw [h1,h2,e1,e2];rfl
end Go.Proofs.YtnddpppljnjmcaaGreatDoor
/- Plain functions for the program's. -/
namespace Go.Proofs.YtnddpppljnjmcaaGreatDoor
open Go Go.Iv Go.Gv
set_option maxRecDepth 100000
set_option linter.unusedVariables false
noncomputable def lb (n:Nat) (g:(List (Int×(List UInt8×(List UInt8×(List Int×Bool))))×List Int)) (a:Int) (b:Int) (v:(Int×(Bool×((Bool×(List UInt8×(Int×Int)))×List UInt8)))) (w:(Int×(Bool×((Bool×(List UInt8×(Int×Int)))×List UInt8)))):Option (Bool×Unit):=
 Option.bind (alive n ) fun y0=>
 Option.bind (Ss (n+10) (g.1,g.2)) fun y1=>
 Option.bind (bif (!y0.1) then
  some true
 else
 some y1.1) fun b3=>
 bif b3 then
 some (y0.1,())
 else
 Option.bind (zW n (g.1,g.2)) fun y4=>
 Option.bind (kD (n+4) (g.1,g.2)) fun y5=>
 Option.bind (cH (n+1) (g.1,g.2) a b) fun y6=>
 Option.bind (BQ (n+3) (g.1,g.2) a b) fun y7=>
 bif (y6.1==y7.1) then
 bif (y4.1==y5.1) then
  bif (y4.2.1==y5.2.1) then
  Option.bind (iQ (n+11) (v.1,(v.2.1,((v.2.2.1.1,(v.2.2.1.2.1,(v.2.2.1.2.2.1,v.2.2.1.2.2.2))),v.2.2.2))) (w.1,(w.2.1,((w.2.2.1.1,(w.2.2.1.2.1,(w.2.2.1.2.2.1,w.2.2.1.2.2.2))),w.2.2.2)))) fun y8=>
  Option.bind (kY (n+11) (v.1,(v.2.1,((v.2.2.1.1,(v.2.2.1.2.1,(v.2.2.1.2.2.1,v.2.2.1.2.2.2))),v.2.2.2))) (w.1,(w.2.1,((w.2.2.1.1,(w.2.2.1.2.1,(w.2.2.1.2.2.1,w.2.2.1.2.2.2))),w.2.2.2)))) fun y9=>
  some ((y8.1==y9.1),())
  else
  some (false,())
 else
 some (false,())
 else
 some (false,())
noncomputable def jm:aT:=⟨6,[(true,(.cons (.bQ sN) (.bQ (.int .i64)))),(false,(.int .i64)),(false,(.int .i64)),(true,(.cons (.int .i64) (.cons .bool (.cons (.cons .bool (.cons .str (.cons (.int .i64) (.int .i64)))) .str)))),(true,(.cons (.int .i64) (.cons .bool (.cons (.cons .bool (.cons .str (.cons (.int .i64) (.int .i64)))) .str))))],[(false,.bool)],12,fun n x=>lb n x.1 x.2.1 x.2.2.1 x.2.2.2.1 x.2.2.2.2.1⟩
theorem Bd (n:Nat):ao Tryz.prog hint aH jm n:=
 ao.of (hk:=fun β=>(aj.mk [l8,mH,zg,jk,zx,Dw,Mq,CE] []).hk β) (sh:=aH) (fun m _=>ab.au ((((((((ab.nil.fn N5).fn Q1).fn MA).fn JL).fn nR).fn Js).fn tE).fn uH) m) (fun x=>by kernel_rfl)
end Go.Proofs.YtnddpppljnjmcaaGreatDoor
/- Equal nodes: what the reference tells. -/
namespace Go.Proofs.YtnddpppljnjmcaaGreatDoor
open Go Go.Iv Go.Gv V
set_option maxRecDepth 10000
theorem OF (a b:Bool×(List UInt8×(Int×Int))):((a.1==b.1) &&((a.2.1==b.2.1) &&((a.2.2.1==b.2.2.1) &&((a.2.2.2==b.2.2.2) &&true))))=decide (a=b):=by
 obtain ⟨a1,a2,a3,a4⟩:=a
 obtain ⟨b1,b2,b3,b4⟩:=b
 simp only [Prod.mk.injEq]
 have dq:∀ {α:Type} [BEq α] [LawfulBEq α] [DecidableEq α] (x y:α),(x==y)=decide (x=y):=by
  intro α _ _ _ x y
  rw [Bool.eq_iff_iff,beq_iff_eq,decide_eq_true_iff]
 rw [dq a1 b1,dq a2 b2,dq a3 b3,dq a4 b4]
 by_cases h1:a1=b1<;>by_cases h2:a2=b2<;>by_cases h3:a3=b3<;>by_cases h4:a4=b4<;>simp [h1,h2,h3,h4]
theorem nr (n:Nat) (v w:Vl):kY n v w=some (decide (nv v=nv w),()):=by
 rw [←jd n v w]
 unfold kY iQ
 simp only [FE,OF,Option.bind_some]
def Bu (x:aK):Gs:=if (val x.2.1 x.2.2.1).2.1=0 then (true,(nv (val x.2.1 x.2.2.1).1,[])) else (false,((0,(false,(zN,[]))),x.2.2.1))
theorem Jg (x y:aK) (h1:x.1=y.1) (h2:x.2.1=y.2.1) (h3:x.2.2.2.1.length=y.2.2.2.1.length):key x=key y↔(x.1=1→Bu x=Bu y):=by
 unfold key
 rw [←h1]
 by_cases h:x.1=1
 ·rw [if_pos h,if_pos h]
  simp only [h1,h2,h3,Prod.mk.injEq,true_and,Option.some.injEq]
  unfold Bu
  rw [h2]
  constructor
  ·intro e _;exact e
  ·intro e;exact e (h1▸h)
 ·rw [if_neg h,if_neg h]
  simp only [h1,h2,h3]
  constructor
  ·intro _ e;exact absurd (h1.symm▸e) h
  ·intro _;trivial
theorem AM (n:Nat) (x y:aK) (hx:NB x) (hy:NB y) (ht:x.2.1=y.2.1) (hn:30000≤n):oc n x y=some (!decide (Bu x=Bu y),()):=by
 unfold oc Bu
 rw [qQ n _ _ hx.2.1 (by omega),Option.bind_some,qQ n _ _ hy.2.1 (by omega),Option.bind_some,←ht]
 by_cases e:(val x.2.1 x.2.2.1).2.1=0
 ·have he:((val x.2.1 x.2.2.1).2.1 !=(0:Int))=false:=by simp [e]
  by_cases f:(val x.2.1 y.2.2.1).2.1=0
  ·have hf:((val x.2.1 y.2.2.1).2.1 !=(0:Int))=false:=by simp [f]
   simp only [he,hf,cond_false,Option.bind_some,nr,if_pos e,if_pos f,Prod.mk.injEq,true_and,_root_.and_true]
  ·have hf:((val x.2.1 y.2.2.1).2.1 !=(0:Int))=true:=by simp [f]
   simp only [he,hf,cond_false,cond_true,Option.bind_some,if_pos e,if_neg f,Prod.mk.injEq,Bool.true_eq_false,false_and,decide_false]
   have:x.2.2.1≠y.2.2.1:=fun h=>f (h▸e)
   rw [beq_false_of_ne this]
 ·have he:((val x.2.1 x.2.2.1).2.1 !=(0:Int))=true:=by simp [e]
  simp only [he,cond_true,Option.bind_some,if_neg e]
  by_cases f:(val x.2.1 y.2.2.1).2.1=0
  ·simp only [if_pos f,Prod.mk.injEq,Bool.false_eq_true,false_and,decide_false]
   have:x.2.2.1≠y.2.2.1:=fun h=>e (h▸f)
   rw [beq_false_of_ne this]
  ·simp only [if_neg f,Prod.mk.injEq,true_and]
   by_cases h:x.2.2.1=y.2.2.1
   ·rw [decide_eq_true h,h,beq_self_eq_true]
   ·rw [decide_eq_false h,beq_false_of_ne h]
theorem J3 (c0:List aK) (c1:List Int) (p q:Int) (t8:List bC) (t7:List bC) (h7:t7.length≤1000000):∀ (m i n:Nat) (t10:Bool),i+m=t7.length→m<n→
  gD n t7 t8 t10 (i:Int) c0 c1 p q=some (((),(t7,(t8,((),(t10 ||decide ((p,q)∈t7.drop i),()))))),((c0,(c1,())),((p,(q,())),()))):=by
 intro m
 induction m with
 |zero=>
  intro i n t10 hi hn
  obtain ⟨n,rfl⟩:∃ k,n=k+1:=⟨n - 1,by omega⟩
  conv=>lhs;unfold gD
  rw [aD (by unfold len;omega),cond_false,Option.bind_some,cond_false,List.drop_eq_nil_of_le (by omega)]
  simp
 |succ m ih=>
  intro i n t10 hi hn
  obtain ⟨n,rfl⟩:∃ k,n=k+1:=⟨n - 1,by omega⟩
  have e0:aB (0:Int) (i:Int)=true:=ak (by omega)
  have e1:aO (i:Int) (len t7)=true:=az (by unfold len;omega)
  have hx : t7[i]? = some (t7[i]'(by omega)) := List.getElem?_eq_getElem (by omega)
  have w:IntKind.wrap .i64 ((i:Int)+1)=((i+1:Nat):Int):=by rw [ae]<;>omega
  conv=>lhs;unfold gD
  cases t10 with
  |true=>
   simp only [e1,cond_true,Option.bind_some,Bool.not_true,cond_false,Bool.true_or]
  |false=>
   simp only [e1,e0,cond_true,Option.bind_some,Bool.not_false,Bool.and_true,Int.toNat_natCast,hx,w]
   rw [ih (i+1) n _ (by omega) (by omega),List.drop_eq_getElem_cons (show i<t7.length by omega)]
   have : ((t7[i]'(by omega)).1 == p && (t7[i]'(by omega)).2 == q) = decide ((p, q) = t7[i]'(by omega)) := by
    generalize t7[i]'(by omega) = z
    obtain ⟨z1,z2⟩:=z
    simp only [Prod.mk.injEq]
    by_cases h1:p=z1<;>by_cases h2:q=z2
    ·subst h1 h2;simp
    ·subst h1;simp [h2,Ne.symm h2]
    ·subst h2;simp [h1,Ne.symm h1]
    ·simp [h1,h2,Ne.symm h1]
   rw [this]
   simp only [List.mem_cons,Bool.false_or,Bool.decide_or]
theorem FD (l1 l2:List Int) (hl:l1.length=l2.length) (hb:l1.length≤1000) (t7:List bC) (c0:List aK) (c1:List Int) (k1:Int) (t1 s1:List UInt8) (b1:Bool) (k2:Int) (t2 s2:List UInt8) (b2:Bool):
  ∀ (m i n:Nat) (w:List bC),i+m=l1.length→m+1≤n→w.length+m≤10000000→
  dG n t7 w (i:Int) c0 c1 k1 t1 s1 l1 b1 k2 t2 s2 l2 b2=
   some (((),(t7,(w++(l1.zip l2).drop i,()))),((c0,(c1,())),((k1,(t1,(s1,(l1,(b1,()))))),((k2,(t2,(s2,(l2,(b2,()))))),())))):=by
 intro m
 induction m with
 |zero=>
  intro i n w hi hn hw
  obtain ⟨n,rfl⟩:∃ k,n=k+1:=⟨n - 1,by omega⟩
  have hz:(l1.zip l2).drop i= []:=by rw [List.drop_eq_nil_iff,List.length_zip];omega
  conv=>lhs;unfold dG
  rw [aD (by unfold len;omega),cond_false,hz,List.append_nil]
 |succ m ih=>
  intro i n w hi hn hw
  obtain ⟨n,rfl⟩:∃ k,n=k+1:=⟨n - 1,by omega⟩
  have hx1:l1[i]? =some l1[i]:=List.getElem?_eq_getElem (by omega)
  have hx2 : l2[i]? = some (l2[i]'(by omega)) := List.getElem?_eq_getElem (by omega)
  have hz : (l1.zip l2).drop i = (l1[i], l2[i]'(by omega)) :: (l1.zip l2).drop (i + 1) := by
   rw [List.drop_eq_getElem_cons (by rw [List.length_zip];omega),List.getElem_zip]
  have w0:IntKind.wrap .i64 ((i:Int)+1)=((i+1:Nat):Int):=by rw [ae]<;>omega
  conv=>lhs;unfold dG
  have r:∀ z:bC,room ((w.length+ [z].length)*17)=true:=fun z=>dM (by simp only [List.length_cons,List.length_nil];omega)
  simp only [az (show (i:Int)<len l1 by unfold len;omega),ak (show (0:Int)≤i by omega),cond_true,Int.toNat_natCast,hx1,hx2,Option.bind_some,w0,r]
  rw [ih (i+1) n _ (by omega) (by omega) (by simp;omega),hz]
  simp only [List.append_assoc,List.cons_append,List.nil_append]
structure O4 (g1:List aK) (a b:Int) (w S:List bC):Prop where
 nd:S.Nodup
 Fv:∀ p,p∈S∨p∈w→gE g1.length p.1=true∧gE g1.length p.2=true
 Nf:∀ p,p∈S∨p∈w→FA g1 (a,b) p
 M6:∀ p∈S,LN g1 p∧∀ q,Step g1 p q→q∈S∨q∈w∨q.1=q.2
 top:(a,b)∈S∨(a,b)∈w∨a=b
theorem O4.done {g1:List aK} {a b:Int} {S:List bC} (h:O4 g1 a b [] S):jO g1 a b:=by
 have key:∀ p,FA g1 (a,b) p→p∈S∨p.1=p.2:=by
  intro p hp
  induction hp with
  |refl=>
       rcases h.top with h |h |h
       ·exact .inl h
       ·cases h
       ·exact .inr h
  |step _ hs ih=>
   rcases ih with ih |ih
   ·rcases (h.M6 _ ih).2 _ hs with h |h |h
    ·exact .inl h
    ·cases h
    ·exact .inr h
   ·exact absurd ih hs.1
 intro p hp
 rcases key p hp with h1 |h1
 ·exact (h.M6 p h1).1
 ·exact .inl h1
theorem Lc (g1:List aK) (g2:List Int) (a b:Int) (hN:g1.length≤60) (hb:∀ x∈g1,NB x) (hk:uu g1):∀ (m n:Nat) (w S:List bC),O4 g1 a b w S→g1.length*g1.length*401+w.length≤S.length*401+m→m≤2000000→m+40000≤n→
  ∃ T,nJ n S w g1 g2=some T∧(match T with
   | .inl _=>jO g1 a b
   | .inr y=>y.1.1=false∧¬ jO g1 a b):=by
 intro m
 induction m using Nat.strongRecOn with
 |ind m ih=>
  intro n w S hI hm hmb hn
  obtain ⟨n,rfl⟩:∃ k,n=k+1:=⟨n - 1,by omega⟩
  have hSl:S.length≤g1.length*g1.length:=by
   have:=dQ hI.nd (L:=D4 g1.length) fun p hp=>jT (hI.Fv p (.inl hp)).1 (hI.Fv p (.inl hp)).2
   rwa [pj] at this
  have hNN:g1.length*g1.length≤60*60:=Nat.mul_le_mul hN hN
  by_cases hw:w= []
  ·subst hw
   have z:Go.Iv.aO (0:Int) (len ([]:List bC))=false:=aD (by simp [len])
   simp only [nJ,z,cond_false]
   exact ⟨_,rfl,hI.done⟩
  ·obtain ⟨w,p,rfl⟩:∃ u p,w=u++ [p]:=⟨w.dropLast,w.getLast hw,(List.dropLast_concat_getLast hw).symm⟩
   have hpw:p∈w++ [p]:=by simp
   obtain ⟨hr1,hr2⟩:=hI.Fv p (.inr hpw)
   obtain ⟨x,hx,ex,hxm⟩:=BJ hr1
   obtain ⟨y,hy,ey,hym⟩:=BJ hr2
   have d1:=of_decide_eq_true hr1
   have d2:=of_decide_eq_true hr2
   simp only [List.length_append,List.length_cons,List.length_nil,Nat.zero_add] at hm
   have hbig:w.length≤4000000:=by omega
   have hlen:len (w++ [p])=((w.length+1:Nat):Int):=by simp [len]
   have w0:IntKind.wrap .i64 (((w.length+1:Nat):Int) - 1)=(w.length:Int):=by rw [ae]<;>omega
   have hg:(w++ [p])[w.length]? =some p:=by simp
   have ht:List.take (w.length - 0) (List.drop 0 (w++ [p]))=w:=by simp
   have hbn:=J3 g1 g2 p.1 p.2 w S (by omega) S.length 0 (n+7) (p.1==p.2) (by omega) (by omega)
   rw [List.drop_zero] at hbn
   have hbn':gD (n+7) S w (p.1==p.2) 0 g1 g2 p.1 p.2=_:=hbn
   conv=>enter [1,T];lhs;lhs;unfold nJ
   simp only [hlen,w0,az (show (0:Int)<((w.length+1:Nat):Int) by omega),ak (show (0:Int)≤(w.length:Int) by omega),az (show (w.length:Int)<((w.length+1:Nat):Int) by omega),ak (show (w.length:Int)≤((w.length+1:Nat):Int) by omega),Bool.and_self,cond_true,Int.toNat_natCast,hg,Option.bind_some,ht,hbn']
   by_cases hbe:p.1=p.2∨p∈S
   ·have hbb:((p.1==p.2) ||decide ((p.1,p.2)∈S))=true:=by
     rcases hbe with h |h
     ·simp [h]
     ·rw [show (p.1,p.2)=p from rfl,decide_eq_true h,Bool.or_true]
    simp only [hbb,cond_true]
    refine ih (m - 1) (by omega) n w S ⟨hI.nd,fun q hq=>hI.Fv q (hq.imp id fun h=>by simp [h]),fun q hq=>hI.Nf q (hq.imp id fun h=>by simp [h]),fun q hq=>⟨(hI.M6 q hq).1,fun r hr=>?_⟩,?_⟩ (by omega) (by omega) (by omega)
    ·rcases (hI.M6 q hq).2 r hr with h |h |h
     ·exact .inl h
     ·rcases List.mem_append.1 h with h |h
      ·exact .inr (.inl h)
      ·rw [List.mem_singleton] at h;subst h
       exact hbe.elim (fun h=> .inr (.inr h)) .inl
     ·exact .inr (.inr h)
    ·rcases hI.top with h |h |h
     ·exact .inl h
     ·rcases List.mem_append.1 h with h |h
      ·exact .inr (.inl h)
      ·rw [List.mem_singleton] at h;subst h
       exact hbe.elim (fun h=> .inr (.inr h)) .inl
     ·exact .inr (.inr h)
   ·have he:p.1≠p.2:=fun h=>hbe (.inl h)
    have hpS:p∉S:=fun h=>hbe (.inr h)
    have hbb:((p.1==p.2) ||decide ((p.1,p.2)∈S))=false:=by
     rw [show (p.1,p.2)=p from rfl,decide_eq_false hpS,Bool.or_false]
     exact beq_false_of_ne he
    have r1:room ((S.length+ [(p.1,p.2)].length)*17)=true:=dM (by simp only [List.length_cons,List.length_nil];omega)
    simp only [hbb,cond_false,r1,cond_true,ak d1.1,ak d2.1,hx,hy,Option.bind_some]
    have hS2:(S++ [p]).Nodup:=by
     rw [List.nodup_append]
     exact ⟨hI.nd,by simp,fun u hu v hv=>by rw [List.mem_singleton] at hv;subst hv;exact fun h=>hpS (h▸hu)⟩
    have hSl2:(S++ [p]).length≤g1.length*g1.length:=by
     have:=dQ hS2 (L:=D4 g1.length) fun q hq=>by
      rcases List.mem_append.1 hq with h |h
      ·exact jT (hI.Fv q (.inl h)).1 (hI.Fv q (.inl h)).2
      ·rw [List.mem_singleton] at h;subst h;exact jT hr1 hr2
     rwa [pj] at this
    simp only [List.length_append,List.length_cons,List.length_nil,Nat.zero_add] at hSl2
    have bad:¬ key x=key y→¬ jO g1 a b:=fun hkk hE=>by
     rcases hE p (hI.Nf p (.inr hpw)) with h1 |h1
     ·exact he h1
     ·rw [ex,ey] at h1;exact hkk h1
    by_cases h1:x.1=y.1
    ·have q1:(x.1 !=y.1)=false:=by simp [h1]
     by_cases h2:x.2.1=y.2.1
     ·have q2:(!(x.2.1==y.2.1))=false:=by simp [h2]
      by_cases h3:x.2.2.2.1.length=y.2.2.2.1.length
      ·have q3:(len x.2.2.2.1 !=len y.2.2.2.1)=false:=by unfold len;simp [h3]
       have hks:=Jg x y h1 h2 h3
       simp only [q1,q2,q3,cond_false]
       have BK:key x=key y→∃ T,(Option.bind (dG (n+7) (S++ [(p.1,p.2)]) w 0 g1 g2 x.1 x.2.1 x.2.2.1 x.2.2.2.1 x.2.2.2.2 y.1 y.2.1 y.2.2.1 y.2.2.2.1 y.2.2.2.2) fun y54=>nJ n y54.1.2.1 y54.1.2.2.1 y54.2.1.1 y54.2.1.2.1)=some T∧(match T with
         | .inl _=>jO g1 a b
         | .inr y=>y.1.1=false∧¬ jO g1 a b):=by
        intro hkk
        have hxb:=(hb x hxm).2.2
        have hpl:=FD x.2.2.2.1 y.2.2.2.1 h3 (by omega) (S++ [(p.1,p.2)]) g1 g2 x.1 x.2.1 x.2.2.1 x.2.2.2.2 y.1 y.2.1 y.2.2.1 y.2.2.2.2 x.2.2.2.1.length 0 (n+7) w (by omega) (by omega) (by omega)
        rw [List.drop_zero] at hpl
        have hpl':dG (n+7) (S++ [(p.1,p.2)]) w 0 g1 g2 x.1 x.2.1 x.2.2.1 x.2.2.2.1 x.2.2.2.2 y.1 y.2.1 y.2.2.1 y.2.2.2.1 y.2.2.2.2=_:=hpl
        rw [hpl',Option.bind_some]
        simp only []
        have hzl:((x.2.2.2.1).zip (y.2.2.2.1)).length≤400:=by rw [List.length_zip];omega
        have hst:∀ q,q∈(x.2.2.2.1).zip (y.2.2.2.1)→Step g1 p q:=fun q hq=>⟨he,by unfold kd;rw [ex,ey];exact hq⟩
        refine ih (m - 2) (by omega) n _ _ ⟨hS2,fun q hq=>?_,fun q hq=>?_,fun q hq=>?_,?_⟩ (by simp only [List.length_append,List.length_cons,List.length_nil];omega) (by omega) (by omega)
        ·rcases hq with hq |hq
         ·rcases List.mem_append.1 hq with h |h
          ·exact hI.Fv q (.inl h)
          ·rw [List.mem_singleton] at h;subst h;exact ⟨hr1,hr2⟩
         ·rcases List.mem_append.1 hq with h |h
          ·exact hI.Fv q (.inr (by simp [h]))
          ·obtain ⟨q1,q2⟩:=q
           have h2:=List.of_mem_zip h
           exact ⟨List.all_eq_true.1 (hk x hxm) _ h2.1,List.all_eq_true.1 (hk y hym) _ h2.2⟩
        ·rcases hq with hq |hq
         ·rcases List.mem_append.1 hq with h |h
          ·exact hI.Nf q (.inl h)
          ·rw [List.mem_singleton] at h;subst h;exact hI.Nf p (.inr hpw)
         ·rcases List.mem_append.1 hq with h |h
          ·exact hI.Nf q (.inr (by simp [h]))
          ·exact .step (hI.Nf p (.inr hpw)) (hst q h)
        ·rcases List.mem_append.1 hq with h |h
         ·refine ⟨(hI.M6 q h).1,fun r hr=>?_⟩
          rcases (hI.M6 q h).2 r hr with h |h |h
          ·exact .inl (List.mem_append_left _ h)
          ·rcases List.mem_append.1 h with h |h
           ·exact .inr (.inl (List.mem_append_left _ h))
           ·exact .inl (List.mem_append_right _ h)
          ·exact .inr (.inr h)
         ·rw [List.mem_singleton] at h;subst h
          refine ⟨.inr (by rw [ex,ey];exact hkk),fun r hr=>?_⟩
          have hr2:=hr.2
          unfold kd at hr2
          rw [ex,ey] at hr2
          exact .inr (.inl (List.mem_append_right _ hr2))
        ·rcases hI.top with h |h |h
         ·exact .inl (List.mem_append_left _ h)
         ·rcases List.mem_append.1 h with h |h
          ·exact .inr (.inl (List.mem_append_left _ h))
          ·exact .inl (List.mem_append_right _ h)
         ·exact .inr (.inr h)
       by_cases h4:x.1=1
       ·have q4:(x.1==(1:Int))=true:=by simp [h4]
        have hu:=AM (n+1) x y (hb x hxm) (hb y hym) h2 (by omega)
        have hu':oc (n+1) (x.1,(x.2.1,(x.2.2.1,(x.2.2.2.1,x.2.2.2.2)))) (y.1,(y.2.1,(y.2.2.1,(y.2.2.2.1,y.2.2.2.2))))=_:=hu
        simp only [q4,cond_true,hu',Option.bind_some]
        by_cases h5:Bu x=Bu y
        ·simp only [decide_eq_true h5,Bool.not_true,cond_false]
         exact BK (hks.2 fun _=>h5)
        ·simp only [decide_eq_false h5,Bool.not_false,cond_true]
         exact ⟨_,rfl,rfl,bad fun h=>h5 (hks.1 h h4)⟩
       ·have q4:(x.1==(1:Int))=false:=by simp [h4]
        simp only [q4,cond_false]
        exact BK (hks.2 fun h=>absurd h h4)
      ·have q3:(len x.2.2.2.1 !=len y.2.2.2.1)=true:=by unfold len;simp;omega
       simp only [q1,q2,q3,cond_false,cond_true]
       exact ⟨_,rfl,rfl,bad fun h=>h3 (congrArg (fun k:vD=>k.2.2.1) h)⟩
     ·have q2:(!(x.2.1==y.2.1))=true:=by simp [h2]
      simp only [q1,q2,cond_false,cond_true]
      exact ⟨_,rfl,rfl,bad fun h=>h2 (congrArg (fun k:vD=>k.2.1) h)⟩
    ·have q1:(x.1 !=y.1)=true:=by simp [h1]
     simp only [q1,cond_true]
     exact ⟨_,rfl,rfl,bad fun h=>h1 (congrArg (fun k:vD=>k.1) h)⟩
theorem qZ (n:Nat) (g:bk) (a b:Int) (hN:g.1.length≤60) (hb:∀ x∈g.1,NB x) (hk:uu g.1) (ha:gE g.1.length a=true) (hb2:gE g.1.length b=true) (hn:2100000≤n):equalR n g a b=some (tf g.1 a b,()):=by
 have hI:O4 g.1 a b [(a,b)] []:=by
  refine ⟨by simp,fun p hp=>?_,fun p hp=>?_,fun p hp=>(by cases hp),.inr (.inl (by simp))⟩
  ·rcases hp with hp |hp
   ·cases hp
   ·simp at hp;subst hp;exact ⟨ha,hb2⟩
  ·rcases hp with hp |hp
   ·cases hp
   ·simp at hp;subst hp;exact .refl
 have hNN:g.1.length*g.1.length≤60*60:=Nat.mul_le_mul hN hN
 obtain ⟨T,h1,h2⟩:=Lc g.1 g.2 a b hN hb hk (g.1.length*g.1.length*401+1) n [(a,b)] [] hI (by simp) (by omega) (by omega)
 unfold equalR
 rw [h1,Option.bind_some]
 cases T with
 |inl y=>rw [Jh h2]
 |inr y=>
  simp only at h2
  cases he:tf g.1 a b with
  |true=>exact absurd (tw he) h2.2
  |false=>show some (y.1.1,())=_;rw [h2.1]
end Go.Proofs.YtnddpppljnjmcaaGreatDoor
/- Numbers are of a bounded length. -/
namespace Go.Proofs.YtnddpppljnjmcaaGreatDoor.V
open Go Go.Iv Go.Gv
def jU (x:BL):Prop:=x.2.1.length≤20000∧ -1000000000000≤x.2.2.1∧x.2.2.1≤1000000000000
theorem IC (b:Bool) (d:List UInt8) (e:Int) (hd:d.length≤20000) (h1: -20000000000≤e) (h2:e≤20000000000):jU (norm b d e):=by
 have l1:=AO d
 have l2:=zV (tl d)
 unfold norm
 cases (de (tl d)).isEmpty with
 |true=>exact ⟨by show 1≤20000;omega,by show _≤(0:Int);decide,by show (0:Int)≤_;decide⟩
 |false=>
  simp only [cond_false]
  unfold jU len
  exact ⟨by show (de (tl d)).length≤20000;omega,by show _≤e+_;omega,by show e+_≤_;omega⟩
theorem Qc (s:List UInt8) (h:(iv s).2.1=true):jU (iv s).1:=by
 have key:∀ (b:Bool) (base:Int) (t:List UInt8),0≤base∧base≤16→(fin b (pl base t)).2.1=true→jU (fin b (pl base t)).1:=by
  intro b base t hb hf
  have hl:=GO base hb t
  unfold fin at hf ⊢
  cases hq:(pl base t).2.1 with
  |false=>rw [hq] at hf;cases hf
  |true=>
   simp only [cond_true]
   exact IC _ _ _ (by omega) (by decide) (by decide)
 unfold iv at h ⊢
 cases h1:pre [48,111] s with
 |true=>rw [h1] at h;exact key _ _ _ (by omega) h
 |false=>
  rw [h1] at h
  cases h2:pre [48,120] s with
  |true=>rw [h2] at h;exact key _ _ _ (by omega) h
  |false=>rw [h2] at h;exact key _ _ _ (by omega) h
theorem H6 (w p v:List UInt8) (b:Bool) (h:(tail w p v b).2.1=true):jU (tail w p v b).1:=by
 have hx:=DI v
 unfold tail at h ⊢
 cases hc:(!(ex v).2 ||((w.isEmpty &&p.isEmpty) ||aO 5000 (len w+len p))) with
 |true=>rw [hc] at h;cases h
 |false=>
  have h3:aO 5000 (len w+len p)=false:=by
   rw [Bool.or_eq_false_iff,Bool.or_eq_false_iff] at hc
   exact hc.2.2
  have h4:w.length+p.length≤5000:=by
   by_cases hq:w.length+p.length≤5000
   ·exact hq
   ·rw [az (by unfold len;omega)] at h3;cases h3
  simp only [cond_false]
  exact IC _ _ _ (by rw [List.length_append];omega) (by unfold len;omega) (by unfold len;omega)
theorem R1 (s:List UInt8) (h:(fl s).2.1=true):jU (fl s).1:=by
 unfold fl at h ⊢
 cases h1:od s with
 |true=>exact ⟨by show 0≤20000;omega,by show _≤(0:Int);decide,by show (0:Int)≤_;decide⟩
 |false=>
  rw [h1] at h
  cases h2:isInf (fV s).1 with
  |true=>exact ⟨by show 0≤_;omega,by show _≤(0:Int);decide,by show (0:Int)≤_;decide⟩
  |false=>
   rw [h2] at h
   simp only [cond_false] at h ⊢
   unfold num at h ⊢
   cases h3:pre [46] ((fV s).1.drop (run (fV s).1).length) with
   |true=>rw [h3] at h;exact H6 _ _ _ _ h
   |false=>rw [h3] at h;exact H6 _ _ _ _ h
theorem Gn (tag s:List UInt8):jU (val tag s).1.2.2.1∧((val tag s).1.1≠5→(val tag s).1.2.2.2= [])∧((val tag s).1.1=5→(val tag s).1.2.2.2=s):=by
 have z:jU zN:=⟨by decide,by decide,by decide⟩
 unfold val
 cases (tag==Fw++CV) with
 |true=>cases P6 s<;>exact ⟨z,fun _=>rfl,fun h=>by cases h⟩
 |false=>
  cases (tag==Fw++Dk) with
  |true=>cases (Ow s ||Qg s)<;>exact ⟨z,fun _=>rfl,fun h=>by cases h⟩
  |false=>
   cases (tag==Fw++Ny) with
   |true=>
    cases hi:(iv s).2.1 with
    |true=>exact ⟨Qc s hi,fun _=>rfl,fun h=>by cases h⟩
    |false=>exact ⟨z,fun _=>rfl,fun h=>by cases h⟩
   |false=>
    cases (tag==Fw++vF) with
    |true=>
     cases hf:(fl s).2.1 with
     |true=>exact ⟨R1 s hf,fun _=>rfl,fun h=>by cases h⟩
     |false=>
      cases hi:(iv s).2.1 with
      |true=>exact ⟨Qc s hi,fun _=>rfl,fun h=>by cases h⟩
      |false=>exact ⟨z,fun _=>rfl,fun h=>by cases h⟩
    |false=>exact ⟨z,fun h=>absurd rfl h,fun _=>rfl⟩
end Go.Proofs.YtnddpppljnjmcaaGreatDoor.V
/- The colors of a graph's nodes: like leaves have one color. -/
namespace Go.Proofs.YtnddpppljnjmcaaGreatDoor
open Go Go.Iv Go.Gv
set_option maxRecDepth 100000
abbrev mS:=Int×(List UInt8×(List UInt8×(List Int×Bool)))
abbrev TX:=List UInt8
theorem ee {β:Type} (a:TX) (b:β) (r:List (TX×β)) (z:TX):cD .str ((a,b)::r) z=if z=a then some b else cD .str r z:=by
 show (bif (z==a) then some b else cD .str r z)=_
 by_cases h:z=a
 ·rw [if_pos h,beq_iff_eq.2 h];rfl
 ·rw [if_neg h,beq_eq_false_iff_ne.2 h];rfl
theorem wS {β:Type} (a:TX) (b:β) (r:List (TX×β)) (x:TX) (y:β):cE .str ((a,b)::r) x y=if x=a then (x,y)::r else (a,b)::cE .str r x y:=by
 show (bif (x==a) then (x,y)::r else (a,b)::cE .str r x y)=_
 by_cases h:x=a
 ·rw [if_pos h,beq_iff_eq.2 h];rfl
 ·rw [if_neg h,beq_eq_false_iff_ne.2 h];rfl
theorem tJ {β:Type} (x:TX) (y:β) (z:TX):∀ l:List (TX×β),cD .str (cE .str l x y) z=if z=x then some y else cD .str l z:=by
 intro l
 induction l with
 |nil=>exact ee x y [] z
 |cons p r ih=>
  obtain ⟨a,b⟩:=p
  rw [wS]
  by_cases h:x=a
  ·subst h
   rw [if_pos rfl,ee,ee]
   by_cases h2:z=x
   ·rw [if_pos h2,if_pos h2]
   ·rw [if_neg h2,if_neg h2,if_neg h2]
  ·rw [if_neg h,ee,ee,ih]
   by_cases h2:z=a
   ·rw [if_pos h2,if_pos h2,if_neg (fun h3=>h (h3.symm.trans h2))]
   ·rw [if_neg h2,if_neg h2]
theorem Ha {β:Type} (x:TX) (y:β):∀ l:List (TX×β),cD .str l x=none→(cE .str l x y).length=l.length+1∧∀ p∈cE .str l x y,p=(x,y)∨p∈l:=by
 intro l
 induction l with
 |nil=>intro _;exact ⟨rfl,fun p hp=>by cases hp with |head=>exact .inl rfl |tail _ h=>cases h⟩
 |cons p r ih=>
  obtain ⟨a,b⟩:=p
  intro h
  rw [ee] at h
  split at h
  ·cases h
  ·rename_i h2
   obtain ⟨h3,h4⟩:=ih h
   rw [wS,if_neg h2]
   refine ⟨by simp [h3],fun p hp=>?_⟩
   rcases List.mem_cons.1 hp with rfl |hp
   ·exact .inr (List.mem_cons_self ..)
   ·rcases h4 p hp with h5 |h5
    ·exact .inl h5
    ·exact .inr (List.mem_cons_of_mem _ h5)
theorem KM {β:Type} {x:TX} {y:β}:∀ {l:List (TX×β)},cD .str l x=some y→(x,y)∈l:=by
 intro l
 induction l with
 |nil=>intro h;cases h
 |cons p r ih=>
  obtain ⟨a,b⟩:=p
  intro h
  rw [ee] at h
  split at h
  ·rename_i h2;cases h;subst h2;exact List.mem_cons_self ..
  ·exact List.mem_cons_of_mem _ (ih h)
def Sm (t:List Int):Prop:=∀ y∈t,0≤y∧y≤1000
theorem Sm.set {t:List Int} (h:Sm t) {i:Nat} {y:Int} (h1:0≤y) (h2:y≤1000):Sm (t.set i y):=fun z hz=>by
 rcases List.mem_or_eq_of_mem_set hz with hz |rfl
 ·exact h z hz
 ·exact ⟨h1,h2⟩
theorem Ng (tx:List TX) (c0:List mS) (c1:List Int) (t39:Int) (hN:tx.length≤1000):∀ (k n i:Nat) (t3:List Int) (m:List (TX×Int)),i+k=tx.length→k<n→t3.length=tx.length→Sm t3→
  (∀ (j:Nat) x,j<i→tx[j]? =some x→∃ y,cD .str m x=some y∧t3[j]? =some y)→m.length≤i→(∀ p∈m,0≤p.2∧p.2≤1000)→
  ∃ t3' m',iN n t3 t39 (len tx) (i:Int) c0 c1 tx m=some (((),(t3',((),(t39,())))),((c0,(c1,())),(tx,(m',()))))∧t3'.length=tx.length∧Sm t3'∧
   ∀ (j:Nat) x,tx[j]? =some x→∃ y,cD .str m' x=some y∧t3'[j]? =some y:=by
 intro k
 induction k with
 |zero=>
  intro n i t3 m hi hn hl hs hm _ _
  obtain ⟨n,rfl⟩:∃ q,n=q+1:=⟨n - 1,by omega⟩
  refine ⟨t3,m,?_,hl,hs,fun j x hx=>hm j x ?_ hx⟩
  ·show (bif aO (i:Int) (len tx) then _ else _)=_
   rw [aD (by unfold len;omega)];rfl
  ·have:=(List.getElem?_eq_some_iff.1 hx).1;omega
 |succ k ih=>
  intro n i t3 m hi hn hl hs hm hml hmv
  obtain ⟨n,rfl⟩:∃ q,n=q+1:=⟨n - 1,by omega⟩
  have hil:i<tx.length:=by omega
  have hx:tx[i]? =some tx[i]:=List.getElem?_eq_getElem hil
  have ht : t3[i]? = some (t3[i]'(by omega)) := List.getElem?_eq_getElem (by omega)
  have w1:IntKind.wrap .i64 ((i:Int)+1)=((i+1:Nat):Int):=by rw [ae (by omega) (by omega)];omega
  have e0:aB (0:Int) (i:Int)=true:=ak (by omega)
  have e4:aO (i:Int) (len t3)=true:=az (by unfold len;omega)
  have e3:aO (i:Int) (len tx)=true:=az (by unfold len;omega)
  have stepB:∀ (m2:List (TX×Int)) (y:Int),cD .str m2 tx[i]=some y→0≤y→y≤1000→(∀ (j:Nat) x,j<i→tx[j]? =some x→∃ y,cD .str m2 x=some y∧t3[j]? =some y)→m2.length≤i+1→(∀ p∈m2,0≤p.2∧p.2≤1000)→
    ∃ t3' m',iN n (t3.set i y) t39 (len tx) ((i+1:Nat):Int) c0 c1 tx m2=some (((),(t3',((),(t39,())))),((c0,(c1,())),(tx,(m',()))))∧t3'.length=tx.length∧Sm t3'∧
     ∀ (j:Nat) x,tx[j]? =some x→∃ y,cD .str m' x=some y∧t3'[j]? =some y:=by
   intro m2 y q1 q2 q3 q4 q5 q6
   refine ih n (i+1) (t3.set i y) m2 (by omega) (by omega) (by rw [List.length_set];exact hl) (hs.set q2 q3) (fun j x hj hx2=>?_) q5 q6
   rcases Nat.lt_or_ge j i with hji |hji
   ·obtain ⟨z,h1,h2⟩:=q4 j x hji hx2
    exact ⟨z,h1,by rw [List.getElem?_set_ne (by omega)];exact h2⟩
   ·obtain rfl:j=i:=by omega
    rw [hx] at hx2;cases hx2
    exact ⟨y,q1,by rw [List.getElem?_set_self (by omega)]⟩
  cases hg:cD .str m tx[i] with
  |none=>
   obtain ⟨r1,r2⟩:=Ha tx[i] (len m) m hg
   have hg2:cD .str (cE .str m tx[i] (len m)) tx[i]=some (len m):=by rw [tJ,if_pos rfl]
   have hb:len m≤1000:=by unfold len;omega
   obtain ⟨t3',m',h1,h2⟩:=stepB (cE .str m tx[i] (len m)) (len m) hg2 (by unfold len;omega) hb (fun j x hj hx2=>by
    obtain ⟨z,h1,h2⟩:=hm j x hj hx2
    refine ⟨z,?_,h2⟩
    rw [tJ]
    by_cases hq:x=tx[i]
    ·rw [hq,hg] at h1;cases h1
    ·rw [if_neg hq];exact h1) (by omega) (fun p hp=>by
    rcases r2 p hp with rfl |hp
    ·exact ⟨by simp only [len];omega,hb⟩
    ·exact hmv p hp)
   refine ⟨t3',m',?_,h2⟩
   rw [←h1]
   conv=>lhs;unfold iN
   have a1:Ek .str m tx[i]=false:=by unfold Ek;rw [hg];rfl
   have a2:c8 .str (cE .str m tx[i] (len m)) tx[i] (0:Int)=len m:=by unfold c8;rw [hg2];rfl
   simp only [e0,e3,e4,Bool.and_true,cond_true,Int.toNat_natCast,hx,Option.bind_some,a1,Bool.not_false,ht,w1,a2]
  |some y=>
   have hy:=hmv _ (KM hg)
   obtain ⟨t3',m',h1,h2⟩:=stepB m y hg hy.1 hy.2 hm (by omega) hmv
   refine ⟨t3',m',?_,h2⟩
   rw [←h1]
   conv=>lhs;unfold iN
   have a1:Ek .str m tx[i]=true:=by unfold Ek;rw [hg];rfl
   have a2:c8 .str m tx[i] (0:Int)=y:=by unfold c8;rw [hg];rfl
   simp only [e0,e3,e4,Bool.and_true,cond_true,Int.toNat_natCast,hx,Option.bind_some,a1,Bool.not_true,cond_false,ht,w1,a2]
theorem vb (y:Int) (h1:0≤y) (h2:y≤1000):(Go.Lib.itoa y).length≤21:=Go.Lib.itoa_length_le y (by omega) (by omega)
theorem Oc (y:Int):(Go.Lib.itoa y).length≠0:=by
 have h:∀ u,(Go.Lib.decDigits u).length≠0:=fun u=>by
  rw [Go.Lib.decDigits];split<;>simp
 unfold Go.Lib.itoa
 split
 ·simp
 ·exact h _
def jN (t3:List Int) (c:Int):Int:=(t3[c.toNat]?).getD 0
theorem tu {t3:List Int} (h:Sm t3) (c:Int):0≤jN t3 c∧jN t3 c≤1000:=by
 unfold jN
 cases hq:t3[c.toNat]? with
 |none=>exact ⟨by simp,by simp⟩
 |some y=>exact h y (List.mem_of_getElem? hq)
def jH (t3:List Int) (l:List Int):TX:=l.flatMap fun c=>32::Go.Lib.itoa (jN t3 c)
def Fz (t3:List Int) (j:Int) (l:List Int):TX:=Go.Lib.itoa (jN t3 j)++jH t3 l
theorem J9 {t3:List Int} (h:Sm t3):∀ l:List Int,(jH t3 l).length≤22*l.length:=by
 intro l
 induction l with
 |nil=>exact Nat.le_refl _
 |cons a l ih=>
  have e:jH t3 (a::l)=(32::Go.Lib.itoa (jN t3 a))++jH t3 l:=rfl
  have:=vb _ (tu h a).1 (tu h a).2
  rw [e,List.length_append,List.length_cons,List.length_cons];omega
theorem Jk {y:Int} (h1:0≤y) (h2:y≤1000):j8 y=true:=by unfold j8;rw [ak (by omega),ak (by omega)];rfl
theorem NS (t3:List Int) (t4:List TX) (t12 t39 t70 t71:Int) (t69 c0:List mS) (c1 l:List Int) (hs:Sm t3) (hl:l.length≤100000) (hk:∀ c∈l,0≤c∧c<(t3.length:Int)):
  ∀ (k n i:Nat) (s:TX),i+k=l.length→k<n→s.length+22*k≤3000000→
   qh n t3 t4 t12 t39 t69 t70 t71 l (len l) (i:Int) c0 c1 s=some (((),(t3,(t4,(t12,((),(t39,(t69,(t70,(t71,()))))))))),((c0,(c1,())),(((),(s++jH t3 (l.drop i),())),()))):=by
 intro k
 induction k with
 |zero=>
  intro n i s hi hn _
  obtain ⟨n,rfl⟩:∃ q,n=q+1:=⟨n - 1,by omega⟩
  conv=>lhs;unfold qh
  rw [aD (by unfold len;omega),cond_false,List.drop_eq_nil_of_le (by omega)]
  show _=some (((),(t3,(t4,(t12,((),(t39,(t69,(t70,(t71,()))))))))),((c0,(c1,())),(((),(s++ [],())),())))
  rw [List.append_nil]
 |succ k ih=>
  intro n i s hi hn hb
  obtain ⟨n,rfl⟩:∃ q,n=q+1:=⟨n - 1,by omega⟩
  have hil:i<l.length:=by omega
  have hx:l[i]? =some l[i]:=List.getElem?_eq_getElem hil
  obtain ⟨k1,k2⟩:=hk l[i] (List.getElem_mem hil)
  have ht : t3[(l[i]).toNat]? = some (t3[(l[i]).toNat]'(by omega)) := List.getElem?_eq_getElem (by omega)
  have hc : jN t3 l[i] = t3[(l[i]).toNat]'(by omega) := by unfold jN; rw [ht]; rfl
  have hq:=tu hs l[i]
  rw [hc] at hq
  have hlen:=vb _ hq.1 hq.2
  have w1:IntKind.wrap .i64 ((i:Int)+1)=((i+1:Nat):Int):=by rw [ae (by omega) (by omega)];omega
  have e0:aB (0:Int) (i:Int)=true:=ak (by omega)
  have e1:aO (i:Int) (len l)=true:=az (by unfold len;omega)
  have e2:aB (0:Int) l[i]=true:=ak k1
  have e3:aO l[i] (len t3)=true:=az k2
  have r1:room ((s.length+(List.length ((32:UInt8)::([]:List UInt8))))*2)=true:=ju (by simp only [List.length_cons,List.length_nil];unfold roomy;omega)
  have r2 : room (((s ++ ((32 : UInt8) :: ([] : List UInt8))).length + (Go.Lib.itoa (t3[(l[i]).toNat]'(by omega))).length) * 2) = true := ju (by simp only [List.length_append, List.length_cons, List.length_nil]; unfold roomy; omega)
  conv=>lhs;unfold qh
  simp only [e1,cond_true,e0,Int.toNat_natCast,hx,Option.bind_some,r1,e2,e3,Bool.and_true,ht,Jk hq.1 hq.2,r2,w1]
  rw [ih n (i+1) _ (by omega) (by omega) (by simp only [List.length_append,List.length_cons,List.length_nil];omega)]
  have : jH t3 (l.drop i) = (32 :: Go.Lib.itoa (t3[(l[i]).toNat]'(by omega))) ++ jH t3 (l.drop (i + 1)) := by
   rw [List.drop_eq_getElem_cons hil,←hc];rfl
  rw [this]
  simp
theorem LI (g1:List mS) (t3:List Int) (t39:Int) (c1:List Int) (hN:g1.length≤1000) (hs:Sm t3) (h3:t3.length=g1.length) (hk:∀ x∈g1,x.2.2.2.1.length≤100000∧∀ c∈x.2.2.2.1,0≤c∧c<(g1.length:Int)):
  ∀ (k n i:Nat) (t4:List TX),i+k=g1.length→k+100010<n→t4.length=g1.length→(∀ (j:Nat) x,j<i→g1[j]? =some x→t4[j]? =some (Fz t3 (j:Int) x.2.2.2.1))→
   ∃ t4',ku n t3 t4 t39 g1 (len g1) (i:Int) g1 c1=some (((),(t3,(t4',(t39,())))),((g1,(c1,())),()))∧t4'.length=g1.length∧∀ (j:Nat) x,g1[j]? =some x→t4'[j]? =some (Fz t3 (j:Int) x.2.2.2.1):=by
 intro k
 induction k with
 |zero=>
  intro n i t4 hi hn hl hd
  obtain ⟨n,rfl⟩:∃ q,n=q+1:=⟨n - 1,by omega⟩
  refine ⟨t4,?_,hl,fun j x hx=>hd j x (by have:=(List.getElem?_eq_some_iff.1 hx).1;omega) hx⟩
  conv=>lhs;unfold ku
  rw [aD (by unfold len;omega),cond_false]
 |succ k ih=>
  intro n i t4 hi hn hl hd
  obtain ⟨n,rfl⟩:∃ q,n=q+1:=⟨n - 1,by omega⟩
  have hil:i<g1.length:=by omega
  have hx:g1[i]? =some g1[i]:=List.getElem?_eq_getElem hil
  have ht : t3[i]? = some (t3[i]'(by omega)) := List.getElem?_eq_getElem (by omega)
  have h4 : t4[i]? = some (t4[i]'(by omega)) := List.getElem?_eq_getElem (by omega)
  obtain ⟨k1,k2⟩:=hk _ (List.getElem_mem hil)
  have hc : jN t3 (i : Int) = t3[i]'(by omega) := by unfold jN; rw [Int.toNat_natCast, ht]; rfl
  have hq:=tu hs (i:Int)
  rw [hc] at hq
  have hlen:=vb _ hq.1 hq.2
  have htl:=J9 hs g1[i].2.2.2.1
  have w1:IntKind.wrap .i64 ((i:Int)+1)=((i+1:Nat):Int):=by rw [ae (by omega) (by omega)];omega
  have e0:aB (0:Int) (i:Int)=true:=ak (by omega)
  have e1:aO (i:Int) (len g1)=true:=az (by unfold len;omega)
  have e3:aO (i:Int) (len t3)=true:=az (by unfold len;omega)
  have e4:aO (i:Int) (len t4)=true:=az (by unfold len;omega)
  have r1 : room ((Go.Lib.itoa (t3[i]'(by omega))).length * 2) = true := ju (by unfold roomy; omega)
  have hloop := NS t3 t4 (i : Int) t39 (len g1) (i : Int) g1 g1 c1 g1[i].2.2.2.1 hs k1 (fun c hc => by rw [h3]; exact k2 c hc) g1[i].2.2.2.1.length (n + 1) 0 (Go.Lib.itoa (t3[i]'(by omega))) (by omega) (by omega) (by omega)
  rw [List.drop_zero] at hloop
  have hlb : Go.Lib.itoa (t3[i]'(by omega)) ++ jH t3 g1[i].2.2.2.1 = Fz t3 (i : Int) g1[i].2.2.2.1 := by unfold Fz; rw [hc]
  rw [hlb] at hloop
  have hll:(Fz t3 (i:Int) g1[i].2.2.2.1).length≤3000000:=by unfold Fz;rw [hc,List.length_append];omega
  have hne:(Fz t3 (i:Int) g1[i].2.2.2.1).isEmpty=false:=by
   have := Oc (t3[i]'(by omega))
   unfold Fz;rw [hc]
   cases hq2 : Go.Lib.itoa (t3[i]'(by omega)) with
   |nil=>rw [hq2] at this;exact absurd rfl this
   |cons a r=>rfl
  have e5:aB (len (Fz t3 (i:Int) g1[i].2.2.2.1)) (len (Fz t3 (i:Int) g1[i].2.2.2.1))=true:=ak (Int.le_refl _)
  have e6:aB (len (Fz t3 (i:Int) g1[i].2.2.2.1)) (1099511627776:Int)=true:=ak (by unfold len;omega)
  have e7:List.take (Int.toNat (len (Fz t3 (i:Int) g1[i].2.2.2.1))) (Fz t3 (i:Int) g1[i].2.2.2.1)=Fz t3 (i:Int) g1[i].2.2.2.1:=by unfold len;rw [Int.toNat_natCast,List.take_length]
  obtain ⟨t4',q1,q2,q3⟩:=ih n (i+1) (t4.set i (Fz t3 (i:Int) g1[i].2.2.2.1)) (by omega) (by omega) (by rw [List.length_set];exact hl) (fun j x hj hxx=>by
   rcases Nat.lt_or_ge j i with hji |hji
   ·rw [List.getElem?_set_ne (by omega)];exact hd j x hji hxx
   ·obtain rfl:j=i:=by omega
    rw [hx] at hxx;cases hxx
    rw [List.getElem?_set_self (by omega)])
  refine ⟨t4',?_,q2,q3⟩
  rw [←q1]
  conv=>lhs;unfold ku
  simp only [e1,cond_true,e0,Int.toNat_natCast,hx,Option.bind_some,e3,Bool.and_true,ht,Jk hq.1 hq.2,r1]
  rw [show ((0:Int))=((0:Nat):Int) from rfl,hloop]
  simp only [Option.bind_some,hne,cond_false,e5,e6,Bool.and_true,cond_true,e0,e4,Int.toNat_natCast,h4,e7,w1]
  rfl
def Rv {α:Type} (R:Nat→Nat→Prop) (t:List α):Prop:=∀ i j,R i j→t[i]? =t[j]?
structure QV (g1:List mS) (ow:mS→TX) (R:Nat→Nat→Prop):Prop where
 ix:∀ i j,R i j→i<g1.length∧j<g1.length
 ow:∀ i j x y,R i j→g1[i]? =some x→g1[j]? =some y→ow x=ow y∧x.2.2.2.1.length=y.2.2.2.1.length∧∀ q∈x.2.2.2.1.zip y.2.2.2.1,R q.1.toNat q.2.toNat
theorem Nk {t3:List Int}:∀ {l k:List Int},l.length=k.length→(∀ q∈l.zip k,t3[q.1.toNat]? =t3[q.2.toNat]?)→jH t3 l=jH t3 k:=by
 intro l
 induction l with
 |nil=>intro k hl _;cases k with |nil=>rfl |cons _ _=>cases hl
 |cons a l ih=>
  intro k hl h
  cases k with
  |nil=>cases hl
  |cons b k=>
   have h1:jN t3 a=jN t3 b:=by unfold jN;rw [h (a,b) (by simp)]
   have h2:=ih (k:=k) (by simpa using hl) (fun q hq=>h q (by rw [List.zip_cons_cons];exact List.mem_cons_of_mem _ hq))
   show (32::Go.Lib.itoa (jN t3 a))++jH t3 l=(32::Go.Lib.itoa (jN t3 b))++jH t3 k
   rw [h1,h2]
theorem Pw (g1:List mS) (c1:List Int) (ow:mS→TX) (R:Nat→Nat→Prop) (hR:QV g1 ow R) (hN:g1.length≤1000) (hk:∀ x∈g1,x.2.2.2.1.length≤100000∧∀ c∈x.2.2.2.1,0≤c∧c<(g1.length:Int)):
  ∀ (r n i:Nat) (t3:List Int) (t4:List TX),i+r=4→r+102000<n→t3.length=g1.length→Sm t3→t4.length=g1.length→(r=0→Rv R t3)→Rv R t4→
   ∃ t3',tR n t3 t4 (i:Int) g1 c1=some ((t3',()),((g1,(c1,())),()))∧t3'.length=g1.length∧Rv R t3':=by
 intro r
 induction r with
 |zero=>
  intro n i t3 t4 hi hn h3 _ _ h0 _
  obtain ⟨n,rfl⟩:∃ q,n=q+1:=⟨n - 1,by omega⟩
  refine ⟨t3,?_,h3,h0 rfl⟩
  conv=>lhs;unfold tR
  rw [aD (by omega),cond_false]
 |succ r ih=>
  intro n i t3 t4 hi hn h3 hs h4 _ hw
  obtain ⟨n,rfl⟩:∃ q,n=q+1:=⟨n - 1,by omega⟩
  obtain ⟨t3',m',a1,a2,a3,a4⟩:=Ng t4 g1 c1 (i:Int) (by omega) t4.length (n+3) 0 t3 [] (by omega) (by omega) (by omega) hs (fun j x hj=>absurd hj (by omega)) (Nat.le_refl _) (fun p hp=>by cases hp)
  have w3:Rv R t3':=by
   intro j k hjk
   obtain ⟨x1,x2⟩:=hR.ix j k hjk
   have e1 : t4[j]? = some (t4[j]'(by omega)) := List.getElem?_eq_getElem (by omega)
   obtain ⟨y,y1,y2⟩:=a4 j _ e1
   obtain ⟨z,z1,z2⟩:=a4 k _ ((hw j k hjk).symm.trans e1)
   rw [y1] at z1;cases z1
   rw [y2,z2]
  obtain ⟨t4',b1,b2,b3⟩:=LI g1 t3' (i:Int) c1 hN a3 (by omega) hk g1.length (n+1) 0 t4 (by omega) (by omega) h4 (fun j x hj=>absurd hj (by omega))
  have w4:Rv R t4':=by
   intro j k hjk
   obtain ⟨x1,x2⟩:=hR.ix j k hjk
   have e1 : g1[j]? = some (g1[j]'x1) := List.getElem?_eq_getElem x1
   have e2 : g1[k]? = some (g1[k]'x2) := List.getElem?_eq_getElem x2
   obtain ⟨o1,o2,o3⟩:=hR.ow j k _ _ hjk e1 e2
   rw [b3 j _ e1,b3 k _ e2]
   have c1:jN t3' (j:Int)=jN t3' (k:Int):=by unfold jN;rw [Int.toNat_natCast,Int.toNat_natCast,w3 j k hjk]
   unfold Fz
   rw [c1,Nk o2 (fun q hq=>w3 _ _ (o3 q hq))]
  have w1:IntKind.wrap .i64 ((i:Int)+1)=((i+1:Nat):Int):=by rw [ae (by omega) (by omega)];omega
  obtain ⟨t3'',q1,q2,q3⟩:=ih n (i+1) t3' t4' (by omega) (by omega) (by omega) a3 b2 (fun _=>w3) w4
  refine ⟨t3'',?_,q2,q3⟩
  rw [←q1]
  conv=>lhs;unfold tR
  have e:aO (i:Int) (4:Int)=true:=az (by omega)
  have a1':iN (n+3) t3 (i:Int) (len t4) 0 g1 c1 t4 []=_:=a1
  have b1':ku (n+1) t3' t4 (i:Int) g1 (len g1) 0 g1 c1=_:=b1
  simp only [e,cond_true,a1',Option.bind_some,b1',w1]
theorem OA (g1:List mS) (c1:List Int) (t3:List Int) (ow:mS→TX) (hN:g1.length≤1000) (ho:∀ x∈g1,∀ n,60000≤n→own n x=some (ow x,())):
  ∀ (k n i:Nat) (t4:List TX),i+k=g1.length→k+60000<n→t4.length=g1.length→(∀ (j:Nat) x,j<i→g1[j]? =some x→t4[j]? =some (ow x))→
   ∃ t4',uT n t3 t4 g1 (len g1) (i:Int) g1 c1=some (((),(t3,(t4',()))),((g1,(c1,())),()))∧t4'.length=g1.length∧∀ (j:Nat) x,g1[j]? =some x→t4'[j]? =some (ow x):=by
 intro k
 induction k with
 |zero=>
  intro n i t4 hi hn hl hd
  obtain ⟨n,rfl⟩:∃ q,n=q+1:=⟨n - 1,by omega⟩
  refine ⟨t4,?_,hl,fun j x hx=>hd j x (by have:=(List.getElem?_eq_some_iff.1 hx).1;omega) hx⟩
  conv=>lhs;unfold uT
  rw [aD (by unfold len;omega),cond_false]
 |succ k ih=>
  intro n i t4 hi hn hl hd
  obtain ⟨n,rfl⟩:∃ q,n=q+1:=⟨n - 1,by omega⟩
  have hil:i<g1.length:=by omega
  have hx:g1[i]? =some g1[i]:=List.getElem?_eq_getElem hil
  have h4 : t4[i]? = some (t4[i]'(by omega)) := List.getElem?_eq_getElem (by omega)
  have w1:IntKind.wrap .i64 ((i:Int)+1)=((i+1:Nat):Int):=by rw [ae (by omega) (by omega)];omega
  have e0:aB (0:Int) (i:Int)=true:=ak (by omega)
  have e1:aO (i:Int) (len g1)=true:=az (by unfold len;omega)
  have e4:aO (i:Int) (len t4)=true:=az (by unfold len;omega)
  obtain ⟨t4',q1,q2,q3⟩:=ih n (i+1) (t4.set i (ow g1[i])) (by omega) (by omega) (by rw [List.length_set];exact hl) (fun j x hj hxx=>by
   rcases Nat.lt_or_ge j i with hji |hji
   ·rw [List.getElem?_set_ne (by omega)];exact hd j x hji hxx
   ·obtain rfl:j=i:=by omega
    rw [hx] at hxx;cases hxx
    rw [List.getElem?_set_self (by omega)])
  refine ⟨t4',?_,q2,q3⟩
  rw [←q1]
  conv=>lhs;unfold uT
  simp only [e1,cond_true,e0,Int.toNat_natCast,hx,Option.bind_some,ho _ (List.getElem_mem hil) (n+1) (by omega),e4,Bool.and_true,h4,w1]
theorem EM (n:Nat) (hn:103000≤n) (g1:List mS) (c1:List Int) (ow:mS→TX) (R:Nat→Nat→Prop) (hR:QV g1 ow R) (hN:g1.length≤1000) (ho:∀ x∈g1,∀ n,60000≤n→own n x=some (ow x,()))
  (hk:∀ x∈g1,x.2.2.2.1.length≤100000∧∀ c∈x.2.2.2.1,0≤c∧c<(g1.length:Int)):∃ c,wz n (g1,c1)=some (c,())∧c.length=g1.length∧Rv R c:=by
 have e1:aB (len g1) (len g1)=true:=ak (Int.le_refl _)
 have e2:aB ((len g1)*(9:Int)) (1099511627776:Int)=true:=ak (by unfold len;omega)
 have e3:aB ((len g1)*(17:Int)) (1099511627776:Int)=true:=ak (by unfold len;omega)
 have e4:Int.toNat (len g1)=g1.length:=by unfold len;exact Int.toNat_natCast _
 obtain ⟨t4,a1,a2,a3⟩:=OA g1 c1 (List.replicate g1.length 0) ow hN ho g1.length n 0 (List.replicate g1.length []) (by omega) (by omega) (by simp) (fun j x hj=>absurd hj (by omega))
 have w4:Rv R t4:=by
  intro j k hjk
  obtain ⟨x1,x2⟩:=hR.ix j k hjk
  have e1 : g1[j]? = some (g1[j]'x1) := List.getElem?_eq_getElem x1
  have e2 : g1[k]? = some (g1[k]'x2) := List.getElem?_eq_getElem x2
  rw [a3 j _ e1,a3 k _ e2,(hR.ow j k _ _ hjk e1 e2).1]
 obtain ⟨c,b1,b2,b3⟩:=Pw g1 c1 ow R hR hN hk 4 (n+7) 0 (List.replicate g1.length 0) t4 rfl (by omega) (by simp) (fun y hy=>by rw [(List.mem_replicate.1 hy).2];omega) a2 (fun h=>by cases h) w4
 refine ⟨c,?_,b2,b3⟩
 unfold wz
 have a1':uT n (List.replicate g1.length 0) (List.replicate g1.length []) g1 (len g1) 0 g1 c1=_:=a1
 have b1':tR (n+7) (List.replicate g1.length 0) t4 0 g1 c1=_:=b1
 simp only [e1,e2,e3,Bool.and_true,cond_true,e4,a1',Option.bind_some,b1']
end Go.Proofs.YtnddpppljnjmcaaGreatDoor
/- Which mapping has two equal keys, if equal nodes have one color. -/
namespace Go.Proofs.YtnddpppljnjmcaaGreatDoor
open Go Go.Iv Go.Gv
set_option maxRecDepth 100000
abbrev KZ:Sh:= .int .i64
theorem gz {β:Type} (a:Int) (b:β) (r:List (Int×β)) (z:Int):cD KZ ((a,b)::r) z=if z=a then some b else cD KZ r z:=by
 show (bif Sh.ie KZ z a then some b else cD KZ r z)=_
 by_cases h:z=a
 ·rw [if_pos h,show Sh.ie KZ z a=true from by subst h;exact beq_self_eq_true z];rfl
 ·rw [if_neg h,show Sh.ie KZ z a=false from beq_false_of_ne h];rfl
theorem Gr {β:Type} (a:Int) (b:β) (r:List (Int×β)) (x:Int) (y:β):cE KZ ((a,b)::r) x y=if x=a then (x,y)::r else (a,b)::cE KZ r x y:=by
 show (bif Sh.ie KZ x a then (x,y)::r else (a,b)::cE KZ r x y)=_
 by_cases h:x=a
 ·rw [if_pos h,show Sh.ie KZ x a=true from by subst h;exact beq_self_eq_true x];rfl
 ·rw [if_neg h,show Sh.ie KZ x a=false from beq_false_of_ne h];rfl
theorem FZ {β:Type} (a:Int) (b:β) (r:List (Int×β)) (x:Int) (y:β):jP KZ ((a,b)::r) x y=if x=a then (a,y)::r else (a,b)::jP KZ r x y:=by
 show (bif Sh.ie KZ x a then (a,y)::r else (a,b)::jP KZ r x y)=_
 by_cases h:x=a
 ·rw [if_pos h,show Sh.ie KZ x a=true from by subst h;exact beq_self_eq_true x];rfl
 ·rw [if_neg h,show Sh.ie KZ x a=false from beq_false_of_ne h];rfl
theorem Hv {β:Type} (x:Int) (y:β) (z:Int):∀ l:List (Int×β),cD KZ (cE KZ l x y) z=if z=x then some y else cD KZ l z:=by
 intro l
 induction l with
 |nil=>exact gz x y [] z
 |cons p r ih=>
  obtain ⟨a,b⟩:=p
  rw [Gr,gz]
  by_cases hxa:x=a
  ·rw [if_pos hxa,gz]
   by_cases h:z=x
   ·rw [if_pos h,if_pos h]
   ·rw [if_neg h,if_neg h,if_neg (fun e=>h (e.trans hxa.symm))]
  ·rw [if_neg hxa,gz,ih]
   by_cases h:z=a
   ·rw [if_pos h,if_pos h,if_neg (fun e=>hxa (e.symm.trans h))]
   ·rw [if_neg h,if_neg h]
theorem Hj {β:Type} (x:Int) (d:β):∀ l:List (Int×β),jP KZ l x (c8 KZ l x d)=l:=by
 intro l
 induction l with
 |nil=>rfl
 |cons p r ih=>
  obtain ⟨a,b⟩:=p
  unfold c8 at ih ⊢
  rw [FZ,gz]
  by_cases h:x=a
  ·rw [if_pos h,if_pos h];rfl
  ·rw [if_neg h,if_neg h,ih]
def bx:List Int→List Int
 | []=> []
 | [k]=> [k]
 |k::_::r=>k::bx r
def dup (e:Int→Int→Bool):List Int→List Int→Bool
 |_,[]=>false
 |S,k::r=>S.any (e k) ||dup e (S++ [k]) r
theorem Gl (g1:List mS) (c1 t2:List Int) (t8 k x0:Int) (x1 x2:TX) (x3:List Int) (x4:Bool) (e:Int→Int→Bool) (F:Nat) (S:List Int) (hS:S.length≤1000000) (he:∀ o∈S,∀ n,F≤n→ij n (g1,c1) k o=some (e k o,())):
  ∀ (m n i:Nat),i+m=S.length→m+F<n→
   uX n t2 t8 k (len S) (i:Int) g1 c1 x0 x1 x2 x3 x4 S=some (if (S.drop i).any (e k) then .inr ((true,()),((g1,(c1,())),((x0,(x1,(x2,(x3,(x4,()))))),(S,())))) else .inl ((t2,((),((),((),(t8,(k,())))))),((g1,(c1,())),((x0,(x1,(x2,(x3,(x4,()))))),(S,()))))):=by
 intro m
 induction m with
 |zero=>
  intro n i hi hn
  obtain ⟨n,rfl⟩:∃ q,n=q+1:=⟨n - 1,by omega⟩
  conv=>lhs;unfold uX
  rw [aD (by unfold len;omega),cond_false,List.drop_eq_nil_of_le (by omega)]
  rfl
 |succ m ih=>
  intro n i hi hn
  obtain ⟨n,rfl⟩:∃ q,n=q+1:=⟨n - 1,by omega⟩
  have hil:i<S.length:=by omega
  have hx:S[i]? =some S[i]:=List.getElem?_eq_getElem hil
  have w1:IntKind.wrap .i64 ((i:Int)+1)=((i+1:Nat):Int):=by rw [ae (by omega) (by omega)];omega
  have e0:aB (0:Int) (i:Int)=true:=ak (by omega)
  have e1:aO (i:Int) (len S)=true:=az (by unfold len;omega)
  conv=>lhs;unfold uX
  simp only [e1,cond_true,e0,Bool.and_true,Int.toNat_natCast,hx,Option.bind_some,he _ (List.getElem_mem hil) (n+1) (by omega),w1]
  rw [List.drop_eq_getElem_cons hil,List.any_cons]
  cases hq:e k S[i] with
  |true=>rfl
  |false=>
   rw [cond_false,ih n (i+1) (by omega) (by omega),Bool.false_or]
structure NA (N:Nat) (t2:List Int) (e:Int→Int→Bool):Prop where
 len:t2.length=N
 ok:∀ a b:Int,0≤a→a<(N:Int)→0≤b→b<(N:Int)→e a b=true→t2[a.toNat]? =t2[b.toNat]?
theorem any_filter (e:Int→Int→Bool) (t2:List Int) (k:Int):∀ S:List Int,(∀ s∈S,e k s=true→t2[k.toNat]? =t2[s.toNat]?)→(S.filter fun s=>t2[s.toNat]? ==t2[k.toNat]?).any (e k)=S.any (e k):=by
 intro S
 induction S with
 |nil=>intro _;rfl
 |cons a S ih=>
  intro h
  have ih:=ih fun s hs=>h s (List.mem_cons_of_mem _ hs)
  rw [List.filter_cons,List.any_cons]
  cases hq:e k a with
  |true=>
   have:=h a (List.mem_cons_self ..) hq
   rw [if_pos (by rw [this];exact beq_self_eq_true _),List.any_cons,hq]
   rfl
  |false=>
   split
   ·rw [List.any_cons,hq,ih]
   ·rw [ih];rfl
theorem GW (g1:List mS) (c1 t2:List Int) (x0:Int) (x1 x2:TX) (l:List Int) (x4:Bool) (e:Int→Int→Bool) (F:Nat) (hl:l.length≤100000) (hc:NA g1.length t2 e) (hin:∀ c∈l,0≤c∧c<(g1.length:Int))
  (he:∀ a b,0≤a→a<(g1.length:Int)→0≤b→b<(g1.length:Int)→∀ n,F≤n→ij n (g1,c1) a b=some (e a b,())):
  ∀ (q n i:Nat) (S:List Int) (m:List (Int×List Int)),l.length≤i+q→S.length≤i→i≤l.length+1→q+F+100010<n→(∀ c∈S,0≤c∧c<(g1.length:Int))→
   (∀ k,0≤k→k<(g1.length:Int)→∀ y,t2[k.toNat]? =some y→c8 KZ m y []=S.filter fun s=>t2[s.toNat]? ==some y)→
   ∃ m',n9 n t2 (i:Int) g1 c1 x0 x1 x2 l x4 m=some (if dup e S (bx (l.drop i)) then .inr ((true,()),((g1,(c1,())),((x0,(x1,(x2,(l,(x4,()))))),(m',())))) else .inl ((),((g1,(c1,())),((x0,(x1,(x2,(l,(x4,()))))),(m',()))))):=by
 intro q
 induction q with
 |zero=>
  intro n i S m hi _ _ hn _ _
  obtain ⟨n,rfl⟩:∃ q,n=q+1:=⟨n - 1,by omega⟩
  refine ⟨m,?_⟩
  conv=>lhs;unfold n9
  rw [aD (by unfold len;omega),cond_false,List.drop_eq_nil_of_le (by omega)]
  rfl
 |succ q ih=>
  intro n i S m hi hSi hil1 hn hSin hm
  obtain ⟨n,rfl⟩:∃ q,n=q+1:=⟨n - 1,by omega⟩
  by_cases hil:i<l.length
  ·have hx:l[i]? =some l[i]:=List.getElem?_eq_getElem hil
   obtain ⟨k1,k2⟩:=hin _ (List.getElem_mem hil)
   have hlen:=hc.len
   have hkl:(l[i]).toNat<t2.length:=by omega
   have ht : t2[(l[i]).toNat]? = some (t2[(l[i]).toNat]'hkl) := List.getElem?_eq_getElem hkl
   generalize hy : t2[(l[i]).toNat]'hkl = y at ht
   have hmy:=hm _ k1 k2 y ht
   generalize hLa:S.filter (fun s=>t2[s.toNat]? ==some y)=La at hmy
   have hLS:La.length≤S.length:=by rw [←hLa];exact List.length_filter_le _ _
   have hLm:∀ o∈La,o∈S:=fun o ho=>by rw [←hLa] at ho;exact (List.mem_filter.1 ho).1
   have hinn:=Gl g1 c1 t2 (i:Int) l[i] x0 x1 x2 l x4 e F La (by omega) (fun o ho n hn=>he _ _ k1 k2 (hSin _ (hLm o ho)).1 (hSin _ (hLm o ho)).2 n hn) La.length (n+1) 0 (by omega) (by omega)
   rw [List.drop_zero] at hinn
   have hany:La.any (e l[i])=S.any (e l[i]):=by
    rw [←hLa,←any_filter e t2 l[i] S (fun s hs h=>hc.ok _ _ k1 k2 (hSin s hs).1 (hSin s hs).2 h),ht]
   rw [hany] at hinn
   have e0:aB (0:Int) (i:Int)=true:=ak (by omega)
   have e1:aO (i:Int) (len l)=true:=az (by unfold len;omega)
   have e2:aB (0:Int) l[i]=true:=ak k1
   have hdr:l.drop i=l[i]::l.drop (i+1):=List.drop_eq_getElem_cons hil
   have hev:bx (l.drop i)=l[i]::bx (l.drop (i+2)):=by
    rw [hdr]
    cases hq2:l.drop (i+1) with
    |nil=>
     have:l.drop (i+2)= []:=by
      have h:=List.length_drop (l:=l) (i:=i+1)
      rw [hq2,List.length_nil] at h
      exact List.drop_eq_nil_of_le (by omega)
     rw [this];rfl
    |cons a r=>
     have:l.drop (i+2)=r:=by
      have h:(l.drop (i+1)).drop 1=r:=by rw [hq2];rfl
      rw [List.drop_drop] at h;exact h
     rw [this];rfl
   rw [hev]
   have hd:dup e S (l[i]::bx (l.drop (i+2)))=(S.any (e l[i]) ||dup e (S++ [l[i]]) (bx (l.drop (i+2)))):=rfl
   rw [hd]
   have hinn':uX (n+1) t2 (i:Int) l[i] (len La) 0 g1 c1 x0 x1 x2 l x4 La=_:=hinn
   cases hq:S.any (e l[i]) with
   |true=>
    rw [hq] at hinn'
    refine ⟨jP KZ m y La,?_⟩
    conv=>lhs;unfold n9
    simp only [e1,cond_true,e0,Int.toNat_natCast,hx,Option.bind_some,e2,ht,hmy,hinn',if_true,Bool.true_or]
   |false=>
    rw [hq] at hinn'
    have hself:jP KZ m y La=m:=by rw [←hmy];exact Hj y [] m
    have w2:IntKind.wrap .i64 ((i:Int)+2)=((i+2:Nat):Int):=by rw [ae (by omega) (by omega)];omega
    have r1:room ((La.length+(List.length (l[i]::([]:List Int))))*9)=true:=ju (by simp only [List.length_cons,List.length_nil];unfold roomy;omega)
    obtain ⟨m',hm'⟩:=ih n (i+2) (S++ [l[i]]) (cE KZ m y (La++ [l[i]])) (by omega) (by simp;omega) (by omega) (by omega) (fun c hcm=>by
     rcases List.mem_append.1 hcm with h |h
     ·exact hSin c h
     ·rw [List.mem_singleton] at h;subst h;exact ⟨k1,k2⟩) (fun k hk1 hk2 z hz=>by
     unfold c8
     rw [Hv,List.filter_append]
     by_cases hzy:z=y
     ·subst hzy
      rw [if_pos rfl,hLa]
      have:(List.filter (fun s=>t2[s.toNat]? ==some z) [l[i]])= [l[i]]:=by rw [List.filter_cons,ht,beq_self_eq_true];rfl
      rw [this];rfl
     ·rw [if_neg hzy]
      have:(List.filter (fun s=>t2[s.toNat]? ==some z) [l[i]])= []:=by
       rw [List.filter_cons,ht]
       have:(some y==some z)=false:=by
        apply beq_false_of_ne;intro h;cases h;exact hzy rfl
       rw [this];rfl
      rw [this,List.append_nil]
      exact hm k hk1 hk2 z hz)
    refine ⟨m',?_⟩
    rw [Bool.false_or,←hm']
    conv=>lhs;unfold n9
    simp only [e1,cond_true,e0,Int.toNat_natCast,hx,Option.bind_some,e2,ht,hmy,hinn',Bool.false_eq_true,if_false,hself,r1,id,beq_self_eq_true,w2]
  ·refine ⟨m,?_⟩
   conv=>lhs;unfold n9
   rw [aD (by unfold len;omega),cond_false,List.drop_eq_nil_of_le (by omega)]
   rfl
theorem FY (n:Nat) (g1:List mS) (c1 t2:List Int) (x:mS) (e:Int→Int→Bool) (F:Nat) (hl:x.2.2.2.1.length≤100000) (hc:NA g1.length t2 e) (hin:∀ c∈x.2.2.2.1,0≤c∧c<(g1.length:Int))
  (he:∀ a b,0≤a→a<(g1.length:Int)→0≤b→b<(g1.length:Int)→∀ n,F≤n→ij n (g1,c1) a b=some (e a b,())) (hn:F+300000≤n):
  zB n (g1,c1) x t2=some (dup e [] (bx x.2.2.2.1),()):=by
 obtain ⟨m',hm'⟩:=GW g1 c1 t2 x.1 x.2.1 x.2.2.1 x.2.2.2.1 x.2.2.2.2 e F hl hc hin he x.2.2.2.1.length n 0 [] [] (by omega) (Nat.le_refl _) (by omega) (by omega) (fun c h=>by cases h) (fun k _ _ y _=>rfl)
 rw [List.drop_zero] at hm'
 have hm2:n9 n t2 0 g1 c1 x.1 x.2.1 x.2.2.1 x.2.2.2.1 x.2.2.2.2 []=_:=hm'
 unfold zB
 simp only [hm2,Option.bind_some]
 cases dup e [] (bx x.2.2.2.1)<;>rfl
end Go.Proofs.YtnddpppljnjmcaaGreatDoor
/- What a node has of its own; which mapping has two equal keys: the program, the reference. -/
namespace Go.Proofs.YtnddpppljnjmcaaGreatDoor
open Go Go.Iv Go.Gv V
set_option maxRecDepth 100000
def RF (b:Bool):TX:=bif b then [45] else []
def R6 (x:BL):TX:=bif x.2.2.2==1 then RF x.1++ [46,105,110,102] else bif x.2.2.2==2 then [46,110,97,110] else bif x.2.2.1 !=0 then ((RF x.1++x.2.1)++ [101])++Go.Lib.itoa x.2.2.1 else RF x.1++x.2.1
theorem Cb {x:BL} (h:jU x):j8 x.2.2.1=true∧(Go.Lib.itoa x.2.2.1).length≤21:=by
 obtain ⟨_,h2,h3⟩:=h
 exact ⟨by unfold j8;rw [ak (by omega),ak (by omega)];rfl,Go.Lib.itoa_length_le _ (by omega) (by omega)⟩
theorem Dx {k:Nat} (h:k≤1000000):room k=true:=ju (by unfold roomy;omega)
theorem Gk (n:Nat) (x:BL) (h:jU x):EP n x=some (R6 x,()):=by
 obtain ⟨i1,i2⟩:=Cb h
 have h1:=h.1
 unfold EP R6 RF
 cases x.1 with
 |true=>
  simp only [cond_true]
  cases (x.2.2.2==1) with
  |true=>rfl
  |false=>
   simp only [cond_false]
   cases (x.2.2.2==2) with
   |true=>rfl
   |false=>
    simp only [cond_false,List.length_append,List.length_cons,List.length_nil,i1,cond_true]
    rw [Dx (by omega),Dx (by omega),Dx (by omega)]
    cases (x.2.2.1 !=0)<;>rfl
 |false=>
  simp only [cond_false]
  cases (x.2.2.2==1) with
  |true=>rfl
  |false=>
   simp only [cond_false]
   cases (x.2.2.2==2) with
   |true=>rfl
   |false=>
    simp only [cond_false,List.length_append,List.length_cons,List.length_nil,i1,cond_true]
    rw [Dx (by omega),Dx (by omega),Dx (by omega)]
    cases (x.2.2.1 !=0)<;>rfl
theorem PA {x:BL} (h:jU x):(R6 x).length≤20100:=by
 have h1:=h.1
 have h2:=(Cb h).2
 have h3:(RF x.1).length≤1:=by unfold RF;cases x.1<;>simp
 unfold R6
 cases (x.2.2.2==1) with
 |true=>simp only [cond_true,List.length_append,List.length_cons,List.length_nil];omega
 |false=>
  cases (x.2.2.2==2) with
  |true=>simp only [cond_true,cond_false,List.length_cons,List.length_nil];omega
  |false=>
   cases (x.2.2.1 !=0) with
   |true=>simp only [cond_true,cond_false,List.length_append,List.length_cons,List.length_nil];omega
   |false=>simp only [cond_false,List.length_append];omega
def P7 (x:aK):TX:=(((((Go.Lib.itoa x.1)++([32]:List UInt8))++(Go.Lib.itoa (len x.2.2.2.1)))++([32]:List UInt8))++x.2.1)++([10]:List UInt8)
def RJ (v:Vl):TX:=bif v.1==3 ||v.1==4 then R6 v.2.2.1 else bif v.1==2 then (bif v.2.1 then [116,114,117,101] else [102,97,108,115,101]) else v.2.2.2
def QD (x:aK):TX:=bif x.1 !=1 then P7 x else bif (val x.2.1 x.2.2.1).2.1 !=0 then (P7 x++ [33])++x.2.2.1 else P7 x++RJ (val x.2.1 x.2.2.1).1
theorem Mp (n:Nat) (x:aK) (hx:NB x) (hk:x.1=1∨x.1=2∨x.1=3) (hn:30000≤n):own n x=some (QD x,()):=by
 obtain ⟨b3,b4,b5⟩:=hx
 have k1:j8 x.1=true:=by unfold j8;rw [ak (by omega),ak (by omega)];rfl
 have k2:j8 (len x.2.2.2.1)=true:=by unfold j8;rw [ak (by unfold len;omega),ak (by unfold len;omega)];rfl
 have b1:(Go.Lib.itoa x.1).length≤21:=Go.Lib.itoa_length_le _ (by omega) (by omega)
 have b2:(Go.Lib.itoa (len x.2.2.2.1)).length≤21:=Go.Lib.itoa_length_le _ (by unfold len;omega) (by unfold len;omega)
 have hv:=kN n x.2.1 x.2.2.1 b4 (by omega)
 obtain ⟨v1,v2,v3⟩:=Gn x.2.1 x.2.2.1
 unfold own
 simp only [k1,k2,cond_true,List.length_append,List.length_cons,List.length_nil]
 rw [Dx (by omega),cond_true,Dx (by omega),cond_true,Dx (by omega),cond_true,Dx (by omega),cond_true,Dx (by omega),cond_true]
 unfold QD
 cases (x.1 !=1) with
 |true=>rfl
 |false=>
  simp only [cond_false,hv,Option.bind_some]
  have hp:(P7 x).length≤9100:=by unfold P7;simp only [List.length_append,List.length_cons,List.length_nil];omega
  cases ((val x.2.1 x.2.2.1).2.1 !=0) with
  |true=>
   simp only [cond_true]
   rw [Dx (by omega),cond_true,Dx (by omega),cond_true];rfl
  |false=>
   simp only [cond_false]
   have hb2:(Option.bind (bif ((val x.2.1 x.2.2.1).1.1==3) then some true else some ((val x.2.1 x.2.2.1).1.1==4)):(Bool→Option (TX×Unit))→Option (TX×Unit))=fun f=>f ((val x.2.1 x.2.2.1).1.1==3 ||(val x.2.1 x.2.2.1).1.1==4):=by
    funext f
    cases ((val x.2.1 x.2.2.1).1.1==3)<;>rfl
   rw [hb2]
   unfold RJ
   cases hq:((val x.2.1 x.2.2.1).1.1==3 ||(val x.2.1 x.2.2.1).1.1==4) with
   |true=>
    have ht:=Gk (n+6) _ v1
    have htl:=PA v1
    have ht':EP (n+6) ((val x.2.1 x.2.2.1).1.2.2.1.1,((val x.2.1 x.2.2.1).1.2.2.1.2.1,((val x.2.1 x.2.2.1).1.2.2.1.2.2.1,(val x.2.1 x.2.2.1).1.2.2.1.2.2.2)))=_:=ht
    simp only [cond_true,ht',Option.bind_some]
    rw [Dx (by omega)];rfl
   |false=>
    simp only [cond_false]
    cases ((val x.2.1 x.2.2.1).1.1==2) with
    |true=>
     simp only [cond_true]
     cases (val x.2.1 x.2.2.1).1.2.1 with
     |true=>simp only [cond_true];rw [Dx (by omega)];rfl
     |false=>simp only [cond_false];rw [Dx (by omega)];rfl
    |false=>
     simp only [cond_false]
     have hl:(val x.2.1 x.2.2.1).1.2.2.2.length≤8100:=by
      by_cases h5:(val x.2.1 x.2.2.1).1.1=5
      ·rw [v3 h5];exact b4
      ·rw [v2 h5];exact Nat.zero_le _
     rw [Dx (by omega)];rfl
theorem Mf (v:Vl) (h:v.1≠5→v.2.2.2= []):RJ v=RJ (nv v):=by
 unfold RJ nv
 by_cases h2:v.1=2
 ·simp [h2]
 ·by_cases h3:v.1=3
  ·simp [h3]
  ·by_cases h4:v.1=4
   ·simp [h4]
   ·by_cases h5:v.1=5
    ·simp [h5]
    ·have e2:(v.1==2)=false:=by simp [h2]
     have e3:(v.1==3)=false:=by simp [h3]
     have e4:(v.1==4)=false:=by simp [h4]
     simp only [if_neg h2,if_neg h3,if_neg h4,if_neg h5,e2,e3,e4,h h5,Bool.or_self,cond_false]
theorem Pd {x y:aK} (h:key x=key y):QD x=QD y:=by
 have h1:x.1=y.1:=congrArg (fun k:vD=>k.1) h
 have h2:x.2.1=y.2.1:=congrArg (fun k:vD=>k.2.1) h
 have h3:x.2.2.2.1.length=y.2.2.2.1.length:=congrArg (fun k:vD=>k.2.2.1) h
 have hp:P7 x=P7 y:=by unfold P7 len;rw [h1,h2,h3]
 unfold QD
 rw [hp,←h1]
 cases hq:(x.1 !=1) with
 |true=>rfl
 |false=>
  have h4:x.1=1:=by simpa using hq
  have hs:=(Jg x y h1 h2 h3).1 h h4
  unfold Bu at hs
  obtain ⟨_,v2,_⟩:=Gn x.2.1 x.2.2.1
  obtain ⟨_,w2,_⟩:=Gn y.2.1 y.2.2.1
  by_cases e:(val x.2.1 x.2.2.1).2.1=0
  ·rw [if_pos e] at hs
   by_cases f:(val y.2.1 y.2.2.1).2.1=0
   ·rw [if_pos f] at hs
    have hn:nv (val x.2.1 x.2.2.1).1=nv (val y.2.1 y.2.2.1).1:=congrArg (fun k:Gs=>k.2.1) hs
    simp only [e,f,bne_self_eq_false,cond_false]
    rw [Mf _ v2,Mf _ w2,hn]
   ·rw [if_neg f] at hs
    have:=congrArg (fun k:Gs=>k.1) hs
    cases this
  ·rw [if_neg e] at hs
   by_cases f:(val y.2.1 y.2.2.1).2.1=0
   ·rw [if_pos f] at hs
    have:=congrArg (fun k:Gs=>k.1) hs
    cases this
   ·rw [if_neg f] at hs
    have ht:x.2.2.1=y.2.2.1:=congrArg (fun k:Gs=>k.2.2) hs
    have e1:((val x.2.1 x.2.2.1).2.1 !=0)=true:=by simp [e]
    have f1:((val y.2.1 y.2.2.1).2.1 !=0)=true:=by simp [f]
    simp only [cond_false]
    rw [e1,f1]
    simp only [cond_true,ht]
theorem sQ.Te {g:bk} (h:sQ g):QV g.1 QD (fun i j=>i<g.1.length∧j<g.1.length∧jO g.1 i j):=by
 refine ⟨fun i j h=>⟨h.1,h.2.1⟩,fun i j x y hr hx hy=>?_⟩
 obtain ⟨r1,r2,hE⟩:=hr
 have nx:nd g.1 (i:Int)=x:=by unfold nd;rw [Int.toNat_natCast,hx];rfl
 have ny:nd g.1 (j:Int)=y:=by unfold nd;rw [Int.toNat_natCast,hy];rfl
 have kx:kd g.1 (i:Int)=x.2.2.2.1:=by unfold kd;rw [nx]
 have ky:kd g.1 (j:Int)=y.2.2.2.1:=by unfold kd;rw [ny]
 have hl:=hE.len
 rw [kx,ky] at hl
 refine ⟨?_,hl,fun q hq=>?_⟩
 ·rcases hE _ .refl with h1 |h1
  ·have:i=j:=Int.ofNat_inj.1 h1
   subst this
   rw [hx] at hy;cases hy;rfl
  ·simp only at h1
   rw [nx,ny] at h1
   exact Pd h1
 ·obtain ⟨q1,q2⟩:=q
  have hm:=List.of_mem_zip hq
  have a1:=of_decide_eq_true (List.all_eq_true.1 (h.kids x (List.mem_of_getElem? hx)) _ hm.1)
  have a2:=of_decide_eq_true (List.all_eq_true.1 (h.kids y (List.mem_of_getElem? hy)) _ hm.2)
  have hk:=hE.kids (q:=(q1,q2)) (by rw [kx,ky];exact hq)
  refine ⟨by show q1.toNat<_;omega,by show q2.toNat<_;omega,?_⟩
  show jO g.1 ((q1.toNat:Nat):Int) ((q2.toNat:Nat):Int)
  rw [Int.toNat_of_nonneg a1.1,Int.toNat_of_nonneg a2.1]
  exact hk
theorem sQ.kind {g:bk} (h:sQ g) {x:aK} (hx:x∈g.1):x.1=1∨x.1=2∨x.1=3:=by
 have h1:=h.r
 unfold eI at h1
 have h2:=List.all_eq_true.1 (Go.Gv.and_true h1).2 x hx
 have h3:=(Go.Gv.and_true h2).1
 unfold n7 at h3
 have h4:=(Go.Gv.and_true (Go.Gv.and_true (Go.Gv.and_true h3).2).2).2
 unfold HN at h4
 by_cases h1:x.1=1
 ·exact .inl h1
 ·by_cases h2:x.1=2
  ·exact .inr (.inl h2)
  ·by_cases h3:x.1=3
   ·exact .inr (.inr h3)
   ·exfalso
    revert h4
    simp [h1,h2,h3]
theorem GJ (n:Nat) (g:bk) (a b:Int) (hg:sQ g) (ha:gE g.1.length a=true) (hb:gE g.1.length b=true) (hn:40000≤n):ij n g a b=some (tf g.1 a b,()):=by
 obtain ⟨r,h1,h2⟩:=rJ n g a b hg.gb.n hg.gb.b hg.kids ha hb (by omega)
 rw [h1]
 cases hr:r with
 |true=>rw [Jh (h2.1 hr)]
 |false=>
  cases he:tf g.1 a b with
  |false=>rfl
  |true=>rw [h2.2 (tw he)] at hr;cases hr
noncomputable def Qy (g1:List aK) (x:aK):Bool:=x.1==3 &&dup (tf g1) [] (bx x.2.2.2.1)
noncomputable def iL (g1:List aK):Nat→Nat→Option Nat
 |0,_=>none
 |k+1,i=>bif (match g1[i]? with |some x=>Qy g1 x |none=>false) then some i else iL g1 k (i+1)
def Si (r:Option Nat):Int×(Bool×Unit):=match r with
 |some i=>((i:Int),(true,()))
 |none=>(0,(false,()))
theorem F5 (n:Nat) (g:bk) (hg:sQ g) (hn:1000000≤n):zW n g=some (Si (iL g.1 g.1.length 0)):=by
 have hN:=hg.gb.n
 have hkids:∀ x∈g.1,x.2.2.2.1.length≤100000∧∀ c∈x.2.2.2.1,0≤c∧c<(g.1.length:Int):=fun x hx=>by
  have:=(hg.gb.b x hx).2.2
  exact ⟨by omega,fun c hc=>of_decide_eq_true (List.all_eq_true.1 (hg.kids x hx) c hc)⟩
 obtain ⟨c,c1,c2,c3⟩:=EM (n+1) (by omega) g.1 g.2 QD _ hg.Te (by omega) (fun x hx n hn=>Mp n x (hg.gb.b x hx) (hg.kind hx) (by omega)) hkids
 have hcol:NA g.1.length c (tf g.1):=⟨c2,fun a b a1 a2 b1 b2 h=>c3 _ _ ⟨by omega,by omega,by rw [Int.toNat_of_nonneg a1,Int.toNat_of_nonneg b1];exact tw h⟩⟩
 have hEq:∀ a b,0≤a→a<(g.1.length:Int)→0≤b→b<(g.1.length:Int)→∀ n,40000≤n→ij n (g.1,g.2) a b=some (tf g.1 a b,()):=fun a b a1 a2 b1 b2 n hn=>GJ n g a b hg (decide_eq_true ⟨a1,a2⟩) (decide_eq_true ⟨b1,b2⟩) hn
 have htw:∀ x∈g.1,∀ n,400000≤n→zB n (g.1,g.2) x c=some (dup (tf g.1) [] (bx x.2.2.2.1),()):=fun x hx n hn=>FY n g.1 g.2 c x (tf g.1) 40000 (hkids x hx).1 hcol (hkids x hx).2 hEq (by omega)
 have hloop:∀ (k n i:Nat),i+k=g.1.length→k+500000<n→rU n c g.1 (len g.1) (i:Int) g.1 g.2=some (match iL g.1 k i with
   |some j=> .inr (((j:Int),(true,())),((g.1,(g.2,())),()))
   |none=> .inl ((),((g.1,(g.2,())),()))):=by
  intro k
  induction k with
  |zero=>
   intro n i hi hn
   obtain ⟨n,rfl⟩:∃ q,n=q+1:=⟨n - 1,by omega⟩
   conv=>lhs;unfold rU
   rw [aD (by unfold len;omega),cond_false];rfl
  |succ k ih=>
   intro n i hi hn
   obtain ⟨n,rfl⟩:∃ q,n=q+1:=⟨n - 1,by omega⟩
   have hil:i<g.1.length:=by omega
   have hx : g.1[i]? = some (g.1[i]'hil) := List.getElem?_eq_getElem hil
   have w1:IntKind.wrap .i64 ((i:Int)+1)=((i+1:Nat):Int):=by rw [ae (by omega) (by omega)];omega
   have e0:aB (0:Int) (i:Int)=true:=ak (by omega)
   have e1:aO (i:Int) (len g.1)=true:=az (by unfold len;omega)
   have ht := htw (g.1[i]'hil) (List.getElem_mem hil) (n + 1) (by omega)
   have hih:=ih n (i+1) (by omega) (by omega)
   conv=>lhs;unfold rU
   conv=>rhs;unfold iL
   simp only [e1,cond_true,e0,Int.toNat_natCast,hx,Option.bind_some,w1]
   unfold Qy
   have ht' : zB (n + 1) (g.1, g.2) ((g.1[i]'hil).1, ((g.1[i]'hil).2.1, ((g.1[i]'hil).2.2.1, ((g.1[i]'hil).2.2.2.1, (g.1[i]'hil).2.2.2.2)))) c = _ := ht
   cases hk : ((g.1[i]'hil).1 == (3 : Int)) with
   |false=>simp only [cond_false,Bool.false_and];exact hih
   |true=>
    simp only [cond_true,ht',Option.bind_some,Bool.true_and]
    cases hd : dup (tf g.1) [] (bx (g.1[i]'hil).2.2.2.1) with
    |true=>rfl
    |false=>simp only [cond_false];exact hih
 have h0:rU n c g.1 (len g.1) 0 g.1 g.2=_:=hloop g.1.length n 0 (by omega) (by omega)
 unfold zW
 rw [show ((g.1,g.2):bk)=g from rfl,tn (n+3) g hg.gb (by omega),Option.bind_some,hg.r]
 simp only [Bool.not_true,cond_false]
 have c1':wz (n+1) g=some (c,()):=c1
 simp only [c1',Option.bind_some,h0]
 cases iL g.1 g.1.length 0<;>rfl
end Go.Proofs.YtnddpppljnjmcaaGreatDoor
/- SameTells: the reference's Twice; the law. -/
namespace Go.Proofs.YtnddpppljnjmcaaGreatDoor
open Go Go.Iv Go.Gv V
set_option maxRecDepth 100000
theorem CD:∀ (l:List Int) (q:Nat),(bx l)[q]? =l[2*q]? :=by
 intro l
 induction l using bx.induct with
 |case1=>intro q;rfl
 |case2 k=>
  intro q
  cases q with
  |zero=>rfl
  |succ q=>show none=_;rw [List.getElem?_eq_none (by simp;omega)]
 |case3 k v r ih=>
  intro q
  cases q with
  |zero=>rfl
  |succ q=>show (bx r)[q]? =(k::v::r)[2*q+1+1]?;rw [List.getElem?_cons_succ,List.getElem?_cons_succ];exact ih q
theorem pZ:∀ l:List Int,(bx l).length=(l.length+1) / 2:=by
 intro l
 induction l using bx.induct with
 |case1=>rfl
 |case2 k=>show 1=(0+1+1) / 2;omega
 |case3 k v r ih=>show (bx r).length+1=_;simp only [List.length_cons];omega
section
variable (g1:List aK) (c1:List Int) (i x0:Int) (x1 x2:TX) (l:List Int) (x4:Bool) (e:Int→Int→Bool) (F:Nat)
theorem Eu (hl:l.length≤100000) (he:∀ a∈l,∀ b∈l,∀ n,F≤n→equalR n (g1,c1) a b=some (e a b,())) (q:Nat) (hq:2*q<l.length) (k:Int) (hk:l[2*q]? =some k):
  ∀ (m p n:Nat),p+m=q→m+F<n→
   mJ n i ((2*q:Nat):Int) ((2*p:Nat):Int) g1 c1 x0 x1 x2 l x4=some (if (((bx l).take q).drop p).any (e k) then .inr ((i,(true,())),((g1,(c1,())),((x0,(x1,(x2,(l,(x4,()))))),()))) else .inl (((),(i,((),(((2*q:Nat):Int),())))),((g1,(c1,())),((x0,(x1,(x2,(l,(x4,()))))),())))):=by
 intro m
 induction m with
 |zero=>
  intro p n hp hn
  obtain ⟨n,rfl⟩:∃ q,n=q+1:=⟨n - 1,by omega⟩
  conv=>lhs;unfold mJ
  rw [aD (by omega),cond_false,List.drop_eq_nil_of_le (by rw [List.length_take];omega)]
  rfl
 |succ m ih=>
  intro p n hp hn
  obtain ⟨n,rfl⟩:∃ q,n=q+1:=⟨n - 1,by omega⟩
  have hpl:2*p<l.length:=by omega
  have hxp : l[2 * p]? = some (l[2 * p]'hpl) := List.getElem?_eq_getElem hpl
  have e0:aB (0:Int) ((2*q:Nat):Int)=true:=ak (by omega)
  have e1:aB (0:Int) ((2*p:Nat):Int)=true:=ak (by omega)
  have e2:aO ((2*p:Nat):Int) ((2*q:Nat):Int)=true:=az (by omega)
  have w2:IntKind.wrap .i64 (((2*p:Nat):Int)+2)=((2*(p+1):Nat):Int):=by rw [ae (by omega) (by omega)];omega
  have hpe:p<(bx l).length:=by rw [pZ];omega
  have hev : (bx l)[p]? = some (l[2 * p]'hpl) := (CD l p).trans hxp
  have hdr : ((bx l).take q).drop p = (l[2 * p]'hpl) :: ((bx l).take q).drop (p + 1) := by
   have h1:p<((bx l).take q).length:=by rw [List.length_take];omega
   rw [List.drop_eq_getElem_cons h1]
   congr 1
   have h2 : ((bx l).take q)[p]? = some (l[2 * p]'hpl) := by rw [List.getElem?_take, if_pos (by omega)]; exact hev
   rw [List.getElem?_eq_getElem h1] at h2
   exact Option.some.inj h2
  have hh:=he k (List.mem_of_getElem? hk) _ (List.getElem_mem hpl) (n+1) (by omega)
  conv=>lhs;unfold mJ
  simp only [e2,cond_true,e0,e1,Int.toNat_natCast,hk,hxp,Option.bind_some,hh,w2]
  rw [hdr,List.any_cons]
  cases e k (l[2 * p]'hpl) with
  |true=>rfl
  |false=>rw [cond_false,Bool.false_or];exact ih (p+1) n (by omega) (by omega)
theorem Gz (hl:l.length≤100000) (he:∀ a∈l,∀ b∈l,∀ n,F≤n→equalR n (g1,c1) a b=some (e a b,())) (h3:x0=3):
  ∀ (m q n:Nat),q+m=(bx l).length→m+F+100010<n→
   nY n i ((2*q:Nat):Int) g1 c1 x0 x1 x2 l x4=some (if dup e ((bx l).take q) ((bx l).drop q) then .inr ((i,(true,())),((g1,(c1,())),((x0,(x1,(x2,(l,(x4,()))))),()))) else .inl (((),(i,())),((g1,(c1,())),((x0,(x1,(x2,(l,(x4,()))))),())))):=by
 intro m
 have hel:=pZ l
 have hb3:(x0==(3:Int))=true:=by simp [h3]
 induction m with
 |zero=>
  intro q n hq hn
  obtain ⟨n,rfl⟩:∃ q,n=q+1:=⟨n - 1,by omega⟩
  conv=>lhs;unfold nY
  rw [hb3,cond_true,aD (by unfold len;omega),Option.bind_some,cond_false,List.drop_eq_nil_of_le (by omega)]
  rfl
 |succ m ih=>
  intro q n hq hn
  obtain ⟨n,rfl⟩:∃ q,n=q+1:=⟨n - 1,by omega⟩
  have hql:2*q<l.length:=by omega
  have hxq : l[2 * q]? = some (l[2 * q]'hql) := List.getElem?_eq_getElem hql
  have hev : (bx l)[q]? = some (l[2 * q]'hql) := (CD l q).trans hxq
  have hqe:q<(bx l).length:=by omega
  have hdr : (bx l).drop q = (l[2 * q]'hql) :: (bx l).drop (q + 1) := by
   rw [List.drop_eq_getElem_cons hqe]
   congr 1
   rw [List.getElem?_eq_getElem hqe] at hev
   exact Option.some.inj hev
  have htk : (bx l).take (q + 1) = (bx l).take q ++ [l[2 * q]'hql] := by rw [List.take_add_one, hev]; rfl
  have w2:IntKind.wrap .i64 (((2*q:Nat):Int)+2)=((2*(q+1):Nat):Int):=by rw [ae (by omega) (by omega)];omega
  have hin:=Eu g1 c1 i x0 x1 x2 l x4 e F hl he q hql _ hxq q 0 (n+1) (by omega) (by omega)
  rw [List.drop_zero] at hin
  have hin':mJ (n+1) i ((2*q:Nat):Int) 0 g1 c1 x0 x1 x2 l x4=_:=hin
  have hih:=ih (q+1) n (by omega) (by omega)
  rw [htk] at hih
  conv=>lhs;unfold nY
  rw [hb3,cond_true,az (by unfold len;omega),Option.bind_some,cond_true,hin',Option.bind_some,hdr]
  have hd : dup e ((bx l).take q) ((l[2 * q]'hql) :: (bx l).drop (q + 1)) = (((bx l).take q).any (e (l[2 * q]'hql)) || dup e ((bx l).take q ++ [l[2 * q]'hql]) ((bx l).drop (q + 1))) := rfl
  rw [hd]
  cases ((bx l).take q).any (e (l[2 * q]'hql)) with
  |true=>rfl
  |false=>
   simp only [Bool.false_or,Bool.false_eq_true,if_false,w2]
   exact hih
end
theorem rG (n:Nat) (g:bk) (hg:sQ g) (hn:4000000≤n):kD n g=some (Si (iL g.1 g.1.length 0)):=by
 have hN:=hg.gb.n
 have hEq:∀ x∈g.1,∀ a∈x.2.2.2.1,∀ b∈x.2.2.2.1,∀ n,2100000≤n→equalR n (g.1,g.2) a b=some (tf g.1 a b,()):=fun x hx a ha b hb n hn=>
  qZ n g a b hg.gb.n hg.gb.b hg.kids (List.all_eq_true.1 (hg.kids x hx) a ha) (List.all_eq_true.1 (hg.kids x hx) b hb) hn
 have hloop:∀ (k n i:Nat),i+k=g.1.length→k+3000000<n→uG n (i:Int) g.1 g.2=some (match iL g.1 k i with
   |some j=> .inr (((j:Int),(true,())),((g.1,(g.2,())),()))
   |none=> .inl ((),((g.1,(g.2,())),()))):=by
  intro k
  induction k with
  |zero=>
   intro n i hi hn
   obtain ⟨n,rfl⟩:∃ q,n=q+1:=⟨n - 1,by omega⟩
   conv=>lhs;unfold uG
   rw [aD (by unfold len;omega),cond_false];rfl
  |succ k ih=>
   intro n i hi hn
   obtain ⟨n,rfl⟩:∃ q,n=q+1:=⟨n - 1,by omega⟩
   have hil:i<g.1.length:=by omega
   have hx : g.1[i]? = some (g.1[i]'hil) := List.getElem?_eq_getElem hil
   have w1:IntKind.wrap .i64 ((i:Int)+1)=((i+1:Nat):Int):=by rw [ae (by omega) (by omega)];omega
   have e0:aB (0:Int) (i:Int)=true:=ak (by omega)
   have e1:aO (i:Int) (len g.1)=true:=az (by unfold len;omega)
   have hih:=ih n (i+1) (by omega) (by omega)
   have hxm:=List.getElem_mem hil
   generalize g.1[i]'hil = x at hx hxm
   have hkl:x.2.2.2.1.length≤400:=(hg.gb.b x hxm).2.2
   conv=>lhs;unfold uG
   conv=>rhs;unfold iL
   simp only [e1,cond_true,e0,Int.toNat_natCast,hx,Option.bind_some,Qy]
   cases hk:(x.1==(3:Int)) with
   |false=>
    have h8:nY (n+1) (i:Int) 0 g.1 g.2 x.1 x.2.1 x.2.2.1 x.2.2.2.1 x.2.2.2.2=some (.inl (((),((i:Int),())),((g.1,(g.2,())),((x.1,(x.2.1,(x.2.2.1,(x.2.2.2.1,(x.2.2.2.2,()))))),())))):=by
     conv=>lhs;unfold nY
     rw [hk,cond_false,Option.bind_some,cond_false]
    simp only [h8,Option.bind_some,w1,cond_false,Bool.false_and]
    exact hih
   |true=>
    have h8:=Gz g.1 g.2 (i:Int) x.1 x.2.1 x.2.2.1 x.2.2.2.1 x.2.2.2.2 (tf g.1) 2100000 (by omega) (fun a ha b hb n hn=>hEq x hxm a ha b hb n hn) (by simpa using hk) (bx x.2.2.2.1).length 0 (n+1) (by omega) (by rw [pZ];omega)
    rw [List.drop_zero,List.take_zero] at h8
    have h8':nY (n+1) (i:Int) 0 g.1 g.2 x.1 x.2.1 x.2.2.1 x.2.2.2.1 x.2.2.2.2=_:=h8
    simp only [h8',Option.bind_some,Bool.true_and]
    cases dup (tf g.1) [] (bx x.2.2.2.1) with
    |true=>rfl
    |false=>simp only [Bool.false_eq_true,if_false,w1,cond_false];exact hih
 have h0:uG n 0 g.1 g.2=_:=hloop g.1.length n 0 (by omega) (by omega)
 unfold kD
 rw [show ((g.1,g.2):bk)=g from rfl,oR n g hg.gb (by omega),Option.bind_some,hg.r]
 simp only [Bool.not_true,cond_false,h0,Option.bind_some]
 cases iL g.1 g.1.length 0<;>rfl
noncomputable def wT (g:bk) (a b:Int):Bool:=eI g &&(gE g.1.length a &&(gE g.1.length b &&tf g.1 a b))
theorem xj (n:Nat) (g:bk) (a b:Int) (hg:GB g) (hn:60000≤n):cH n g a b=some (wT g a b,()):=by
 by_cases h1:gE g.1.length a=true
 ·by_cases h2:gE g.1.length b=true
  ·cases hr:eI g with
   |true=>
    rw [mQ n g a b ⟨hg,hr⟩ h1 h2 (by omega)]
    unfold wT;rw [hr,h1,h2];rfl
   |false=>
    have d1:=of_decide_eq_true h1
    have d2:=of_decide_eq_true h2
    unfold cH wT
    rw [show ((g.1,g.2):bk)=g from rfl]
    simp only [len,ak d1.1,az d1.2,ak d2.1,az d2.2,cond_true]
    rw [tn (n+2) g hg (by omega),Option.bind_some,hr];rfl
  ·have h2':gE g.1.length b=false:=by simpa using h2
   have d1:=of_decide_eq_true h1
   have d2:¬ (0≤b∧b<(g.1.length:Int)):=fun h=>h2 (decide_eq_true h)
   unfold cH wT
   simp only [len,ak d1.1,az d1.2,cond_true,h1,h2',Bool.false_and,Bool.and_false]
   by_cases h3:0≤b
   ·rw [ak h3,cond_true,aD (by omega),cond_false]
   ·rw [gO (by omega),cond_false]
 ·have h1':gE g.1.length a=false:=by simpa using h1
  have d1:¬ (0≤a∧a<(g.1.length:Int)):=fun h=>h1 (decide_eq_true h)
  unfold cH wT
  simp only [len,h1',Bool.false_and,Bool.and_false]
  by_cases h3:0≤a
  ·rw [ak h3,cond_true,aD (by omega),cond_false]
  ·rw [gO (by omega),cond_false]
theorem G4 (n:Nat) (g:bk) (a b:Int) (hg:GB g) (hn:2200000≤n):BQ n g a b=some (wT g a b,()):=by
 unfold BQ wT
 rw [show ((g.1,g.2):bk)=g from rfl,zb n g a hg (by omega),Option.bind_some,zb n g b hg (by omega),Option.bind_some]
 cases hr:eI g with
 |false=>rfl
 |true=>
  cases h1:gE g.1.length a with
  |false=>rfl
  |true=>
   cases h2:gE g.1.length b with
   |false=>rfl
   |true=>
    have hF:sQ g:=⟨hg,hr⟩
    simp only [Bool.and_true,Bool.true_and,Bool.not_true,cond_false]
    rw [qZ (n+1) g a b hg.n hg.b hF.kids h1 h2 (by omega)];rfl
theorem J1 (n:Nat) (g:bk) (hg:GB g) (hn:4000000≤n):zW n g=kD (n+4) g:=by
 cases hr:eI g with
 |true=>rw [F5 n g ⟨hg,hr⟩ (by omega),rG (n+4) g ⟨hg,hr⟩ (by omega)]
 |false=>
  unfold zW kD
  rw [show ((g.1,g.2):bk)=g from rfl,tn (n+3) g hg (by omega),oR (n+4) g hg (by omega)]
  simp only [Option.bind_some,hr,Bool.not_false,cond_true]
theorem v8 (n:Nat) (hn:6000000≤n) (g:bk) (a b:Int) (v w:Vl) (hb:∀ x∈g.1,SB x) (hlen:g.1.length<1000000000000000000):lb n g a b v w=some (true,()):=by
 unfold lb
 rw [show ((g.1,g.2):bk)=g from rfl,GS n (by omega),Option.bind_some,Mi (n+10) g hb hlen (by omega)]
 simp only [Option.bind_some,Bool.not_true,cond_false]
 cases hbig:ON g with
 |true=>rfl
 |false=>
  have hg:=GB.of hbig
  simp only [cond_false]
  have ht:=J1 n g hg (by omega)
  have hsome:∃ y,kD (n+4) g=some y:=by
   cases hr:eI g with
   |true=>exact ⟨_,rG (n+4) g ⟨hg,hr⟩ (by omega)⟩
   |false=>
    refine ⟨(0,(false,())),?_⟩
    unfold kD
    rw [show ((g.1,g.2):bk)=g from rfl,oR (n+4) g hg (by omega)]
    simp only [Option.bind_some,hr,Bool.not_false,cond_true]
  obtain ⟨y,hy⟩:=hsome
  rw [ht,hy,Option.bind_some,Option.bind_some,xj (n+1) g a b hg (by omega),Option.bind_some,G4 (n+3) g a b hg (by omega),Option.bind_some]
  have hv:iQ (n+11) (v.1,(v.2.1,((v.2.2.1.1,(v.2.2.1.2.1,(v.2.2.1.2.2.1,v.2.2.1.2.2.2))),v.2.2.2))) (w.1,(w.2.1,((w.2.2.1.1,(w.2.2.1.2.1,(w.2.2.1.2.2.1,w.2.2.1.2.2.2))),w.2.2.2)))=_:=jd (n+11) v w
  have hw:kY (n+11) (v.1,(v.2.1,((v.2.2.1.1,(v.2.2.1.2.1,(v.2.2.1.2.2.1,v.2.2.1.2.2.2))),v.2.2.2))) (w.1,(w.2.1,((w.2.2.1.1,(w.2.2.1.2.1,(w.2.2.1.2.2.1,w.2.2.1.2.2.2))),w.2.2.2)))=_:=nr (n+11) v w
  simp only [beq_self_eq_true,cond_true,hv,hw,Option.bind_some]
theorem xK (n:Nat) (hn:6000000≤n) (g:bk) (a b:Int) (v w:Vl) (h:Sh.wf (.cons (.bQ (.cons (.int .i64) (.cons .str (.cons .str (.cons (.bQ (.int .i64)) .bool))))) (.bQ (.int .i64))) g) (_:Sh.wf (.int .i64) a) (_:Sh.wf (.int .i64) b)
  (_:Sh.wf (.cons (.int .i64) (.cons .bool (.cons (.cons .bool (.cons .str (.cons (.int .i64) (.int .i64)))) .str))) v) (_:Sh.wf (.cons (.int .i64) (.cons .bool (.cons (.cons .bool (.cons .str (.cons (.int .i64) (.int .i64)))) .str))) w):lb n g a b v w=some (true,()):=by
 have hr:reachBytes≤281474976710656:=by decide
 have hw:List.length g.1≤reachBytes∧∀ x∈g.1,Sh.wf (.cons (.int .i64) (.cons .str (.cons .str (.cons (.bQ (.int .i64)) .bool)))) x:=h.1
 refine v8 n hn g a b v w (fun x hx=>?_) (by have:=hw.1;omega)
 have h1:=hw.2 x hx
 have h2:x.2.1.length≤reachBytes:=h1.2.1
 have h3:x.2.2.1.length≤reachBytes:=h1.2.2.1
 have h4:x.2.2.2.1.length≤reachBytes:=h1.2.2.2.1.1
 exact ⟨by omega,by omega,by omega⟩
end Go.Proofs.YtnddpppljnjmcaaGreatDoor
/- Functions whose answers are told: by the kit's contracts. -/
namespace Go.Proofs.YtnddpppljnjmcaaGreatDoor
open Go Go.Iv Go.Gv Go.Shelf Go.Proofs
def EY:Go.Shelf.Ren:=⟨fun |171=>33 |243=>46 |246=>59 |283=>75 |284=>76 |285=>77 |286=>78 |129=>100 |317=>99 |318=>101 |319=>102 |320=>103 |337=>120 |338=>121 |n=>n,fun |3=>3 |9=>9 |2=>2 |4=>4 |171=>116 |0=>0 |53=>117 |37=>52 |5=>5 |173=>120 |212=>135 |51=>136 |20=>20 |213=>137 |46=>110 |232=>156 |233=>157 |n=>n,fun |17=>2 |18=>3 |19=>4 |n=>n⟩
theorem OK:Go.Proofs.LaysM.n171 Tryz.prog EY:={
 mixed:=by kernel_rfl
 f129:=Tryz.func100.trans (congrArg some (by kernel_rfl))
 f171:=Tryz.func33.trans (congrArg some (by kernel_rfl))
 f243:=Tryz.func46.trans (congrArg some (by kernel_rfl))
 f246:=Tryz.func59.trans (congrArg some (by kernel_rfl))
 f283:=Tryz.func75.trans (congrArg some (by kernel_rfl))
 f284:=Tryz.func76.trans (congrArg some (by kernel_rfl))
 f285:=Tryz.func77.trans (congrArg some (by kernel_rfl))
 f286:=Tryz.func78.trans (congrArg some (by kernel_rfl))
 f317:=Tryz.func99.trans (congrArg some (by kernel_rfl))
 f318:=Tryz.func101.trans (congrArg some (by kernel_rfl))
 f319:=Tryz.func102.trans (congrArg some (by kernel_rfl))
 f320:=Tryz.func103.trans (congrArg some (by kernel_rfl))
 f337:=Tryz.func120.trans (congrArg some (by kernel_rfl))
 f338:=Tryz.func121.trans (congrArg some (by kernel_rfl))
 t0:=Tryz.underlying0
 a0:=Tryz.isAgg0
 z0:=Tryz.sizeOf0
 v0:=Tryz.zeroValue0
 t2:=Tryz.underlying2
 a2:=Tryz.isAgg2
 z2:=Tryz.sizeOf2
 v2:=Tryz.zeroValue2
 t3:=Tryz.underlying3
 a3:=Tryz.isAgg3
 z3:=Tryz.sizeOf3
 v3:=Tryz.zeroValue3
 t4:=Tryz.underlying4
 a4:=Tryz.isAgg4
 z4:=Tryz.sizeOf4
 v4:=Tryz.zeroValue4
 t5:=Tryz.underlying5
 a5:=Tryz.isAgg5
 z5:=Tryz.sizeOf5
 v5:=Tryz.zeroValue5
 t9:=Tryz.underlying9
 a9:=Tryz.isAgg9
 z9:=Tryz.sizeOf9
 v9:=Tryz.zeroValue9
 t20:=Tryz.underlying20
 a20:=Tryz.isAgg20
 z20:=Tryz.sizeOf20
 v20:=Tryz.zeroValue20
 t37:=Tryz.underlying52
 a37:=Tryz.isAgg52
 z37:=Tryz.sizeOf52
 v37:=Tryz.zeroValue52
 t46:=Tryz.underlying110
 a46:=Tryz.isAgg110
 z46:=Tryz.sizeOf110
 v46:=Tryz.zeroValue110
 t51:=Tryz.underlying136
 a51:=Tryz.isAgg136
 z51:=Tryz.sizeOf136
 v51:=Tryz.zeroValue136
 t53:=Tryz.underlying117
 a53:=Tryz.isAgg117
 z53:=Tryz.sizeOf117
 v53:=Tryz.zeroValue117
 t171:=Tryz.underlying116
 a171:=Tryz.isAgg116
 z171:=Tryz.sizeOf116
 v171:=Tryz.zeroValue116
 t173:=Tryz.underlying120
 a173:=Tryz.isAgg120
 z173:=Tryz.sizeOf120
 v173:=Tryz.zeroValue120
 t212:=Tryz.underlying135
 a212:=Tryz.isAgg135
 z212:=Tryz.sizeOf135
 v212:=Tryz.zeroValue135
 t213:=Tryz.underlying137
 a213:=Tryz.isAgg137
 z213:=Tryz.sizeOf137
 t232:=Tryz.underlying156
 a232:=Tryz.isAgg156
 z232:=Tryz.sizeOf156
 v232:=Tryz.zeroValue156
 t233:=Tryz.underlying157
 a233:=Tryz.isAgg157
 z233:=Tryz.sizeOf157
 v233:=Tryz.zeroValue157
 g17:=by kernel_rfl
 g18:=by kernel_rfl
 g19:=by kernel_rfl
 i0:=by kernel_rfl
 i2:=by kernel_rfl
 i3:=by kernel_rfl
 i4:=by kernel_rfl
 i5:=by kernel_rfl
 i9:=by kernel_rfl
 i20:=by kernel_rfl
 i37:=by kernel_rfl
 i46:=by kernel_rfl
 i51:=by kernel_rfl
 i53:=by kernel_rfl
 i171:=by kernel_rfl
 i173:=by kernel_rfl
 i212:=by kernel_rfl
 i232:=by kernel_rfl
 i233:=by kernel_rfl
 m17:=by kernel_rfl
 m18:=by kernel_rfl
 m19:=by kernel_rfl
}
def Cq:Go.Shelf.Ren:=⟨fun |161=>94 |231=>112 |227=>113 |233=>114 |235=>115 |228=>122 |197=>123 |151=>124 |260=>128 |152=>129 |137=>136 |119=>137 |224=>138 |225=>139 |217=>143 |266=>146 |n=>n,fun |9=>9 |4=>4 |3=>3 |5=>5 |117=>146 |116=>145 |0=>0 |124=>149 |105=>152 |21=>21 |119=>106 |46=>110 |139=>109 |138=>108 |n=>n,fun |3=>0 |4=>1 |n=>n⟩
theorem PD:Go.Proofs.Lays.n161 Tryz.prog Cq:={
 mixed:=by kernel_rfl
 f119:=Tryz.func137.trans (congrArg some (by kernel_rfl))
 f137:=Tryz.func136.trans (congrArg some (by kernel_rfl))
 f151:=Tryz.func124.trans (congrArg some (by kernel_rfl))
 f152:=Tryz.func129.trans (congrArg some (by kernel_rfl))
 f161:=Tryz.func94.trans (congrArg some (by kernel_rfl))
 f197:=Tryz.func123.trans (congrArg some (by kernel_rfl))
 f217:=Tryz.func143.trans (congrArg some (by kernel_rfl))
 f224:=Tryz.func138.trans (congrArg some (by kernel_rfl))
 f225:=Tryz.func139.trans (congrArg some (by kernel_rfl))
 f227:=Tryz.func113.trans (congrArg some (by kernel_rfl))
 f228:=Tryz.func122.trans (congrArg some (by kernel_rfl))
 f231:=Tryz.func112.trans (congrArg some (by kernel_rfl))
 f233:=Tryz.func114.trans (congrArg some (by kernel_rfl))
 f235:=Tryz.func115.trans (congrArg some (by kernel_rfl))
 f260:=Tryz.func128.trans (congrArg some (by kernel_rfl))
 f266:=Tryz.func146.trans (congrArg some (by kernel_rfl))
 t0:=Tryz.underlying0
 a0:=Tryz.isAgg0
 z0:=Tryz.sizeOf0
 v0:=Tryz.zeroValue0
 t3:=Tryz.underlying3
 a3:=Tryz.isAgg3
 z3:=Tryz.sizeOf3
 v3:=Tryz.zeroValue3
 t4:=Tryz.underlying4
 a4:=Tryz.isAgg4
 z4:=Tryz.sizeOf4
 v4:=Tryz.zeroValue4
 t5:=Tryz.underlying5
 a5:=Tryz.isAgg5
 z5:=Tryz.sizeOf5
 v5:=Tryz.zeroValue5
 t9:=Tryz.underlying9
 a9:=Tryz.isAgg9
 z9:=Tryz.sizeOf9
 v9:=Tryz.zeroValue9
 t21:=Tryz.underlying21
 a21:=Tryz.isAgg21
 z21:=Tryz.sizeOf21
 v21:=Tryz.zeroValue21
 t46:=Tryz.underlying110
 a46:=Tryz.isAgg110
 z46:=Tryz.sizeOf110
 v46:=Tryz.zeroValue110
 t105:=Tryz.underlying152
 a105:=Tryz.isAgg152
 z105:=Tryz.sizeOf152
 v105:=Tryz.zeroValue152
 t116:=Tryz.underlying145
 a116:=Tryz.isAgg145
 z116:=Tryz.sizeOf145
 t117:=Tryz.underlying146
 a117:=Tryz.isAgg146
 z117:=Tryz.sizeOf146
 v117:=Tryz.zeroValue146
 t119:=Tryz.underlying106
 a119:=Tryz.isAgg106
 z119:=Tryz.sizeOf106
 t124:=Tryz.underlying149
 a124:=Tryz.isAgg149
 z124:=Tryz.sizeOf149
 v124:=Tryz.zeroValue149
 t138:=Tryz.underlying108
 a138:=Tryz.isAgg108
 z138:=Tryz.sizeOf108
 v138:=Tryz.zeroValue108
 t139:=Tryz.underlying109
 a139:=Tryz.isAgg109
 z139:=Tryz.sizeOf109
 v139:=Tryz.zeroValue109
 g3:=by kernel_rfl
 g4:=by kernel_rfl
}
def Ff:Go.Shelf.Ren:=⟨fun |196=>52 |259=>69 |n=>n,fun |9=>9 |4=>4 |3=>3 |5=>5 |12=>12 |119=>106 |0=>0 |46=>110 |139=>109 |138=>108 |53=>117 |n=>n,fun |3=>0 |4=>1 |n=>n⟩
theorem Pt:Go.Proofs.Lays.n196 Tryz.prog Ff:={
 mixed:=by kernel_rfl
 f196:=Tryz.func52.trans (congrArg some (by kernel_rfl))
 f259:=Tryz.func69.trans (congrArg some (by kernel_rfl))
 t0:=Tryz.underlying0
 a0:=Tryz.isAgg0
 z0:=Tryz.sizeOf0
 v0:=Tryz.zeroValue0
 t3:=Tryz.underlying3
 a3:=Tryz.isAgg3
 z3:=Tryz.sizeOf3
 v3:=Tryz.zeroValue3
 t4:=Tryz.underlying4
 a4:=Tryz.isAgg4
 z4:=Tryz.sizeOf4
 v4:=Tryz.zeroValue4
 t5:=Tryz.underlying5
 a5:=Tryz.isAgg5
 z5:=Tryz.sizeOf5
 v5:=Tryz.zeroValue5
 t9:=Tryz.underlying9
 a9:=Tryz.isAgg9
 z9:=Tryz.sizeOf9
 v9:=Tryz.zeroValue9
 t12:=Tryz.underlying12
 a12:=Tryz.isAgg12
 z12:=Tryz.sizeOf12
 v12:=Tryz.zeroValue12
 t46:=Tryz.underlying110
 a46:=Tryz.isAgg110
 z46:=Tryz.sizeOf110
 v46:=Tryz.zeroValue110
 t53:=Tryz.underlying117
 a53:=Tryz.isAgg117
 z53:=Tryz.sizeOf117
 v53:=Tryz.zeroValue117
 t119:=Tryz.underlying106
 a119:=Tryz.isAgg106
 z119:=Tryz.sizeOf106
 t138:=Tryz.underlying108
 a138:=Tryz.isAgg108
 z138:=Tryz.sizeOf108
 v138:=Tryz.zeroValue108
 t139:=Tryz.underlying109
 a139:=Tryz.isAgg109
 z139:=Tryz.sizeOf109
 v139:=Tryz.zeroValue109
 g3:=by kernel_rfl
 g4:=by kernel_rfl
}
theorem Tg:qV Tryz.prog 1 33 2:=KQ ⟨_,_,Tryz.func33,rfl⟩ (by kernel_rfl) fun n w h0 h1 ht=>Go.Proofs.Any.strconv_Itoa OK n h0 h1 w ht
theorem SW:qV Tryz.prog 2 94 0:=JP ⟨_,_,Tryz.func94,rfl⟩ fun s cutset w h1 h2=>Go.Proofs.Any.strings_TrimLeft_laid PD (by kernel_rfl) s cutset w h1 h2
theorem SI:qV Tryz.prog 3 52 1:=FT (g1:=0) (g2:=1) (by decide) ⟨_,_,Tryz.func52,rfl⟩ fun s w h1 h2=>Go.Proofs.Any.utf8_ValidString Pt s w h1 h2
theorem Lr:qB Tryz.prog (cw hint):=MD (show nT Tryz.prog Qi from ⟨Tg,SW,SI,trivial⟩)
end Go.Proofs.YtnddpppljnjmcaaGreatDoor
