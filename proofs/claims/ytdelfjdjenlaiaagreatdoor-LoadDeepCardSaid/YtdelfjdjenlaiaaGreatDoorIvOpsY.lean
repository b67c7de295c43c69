/- The operations, one by one (the fifth part): append. -/
import Derived.Test.YtdelfjdjenlaiaaGreatDoorIvOpsX
import Derived.Laws.BytesString
set_option linter.unusedSimpArgs false
set_option linter.unusedVariables false
namespace Go.Iv
open Go
variable {P:Program} {Γ:Ga} {H:IH} {w:World}
theorem Ik {w w1:World} (h:w1.heap=w.heap) (a:Addr):w1.cell? a=w.cell? a:=by simp [World.cell?,h]
theorem pT (hR:Rh Γ H w) {b off n:Nat} {cs:List Value} (hc:H.bq b off n=some cs):
  ∃ cs':List Value,cB Γ w cs cs'/\cs'.length=n/\∀ w1:World,w1.heap=w.heap->(loadCells (Γ.at b off) n).run P w1= .ok ⟨cs'⟩ w1:=by
 obtain ⟨cs',h1,h2,h3⟩:=hR.bq hc;refine ⟨cs',h1,h2,fun w1 hw=>?_⟩;have:=run_loadCells_list (P:=P) (w:=w1) (Γ.at b off) cs' (fun j v hj=>by rw [Ik hw];exact h3 j v hj);rw [h2] at this;exact this
theorem A4 (hR:Rh Γ H w) {size n k:Nat} {x x':Value} {new:List Value} (h:bJ H size n x=some new) (hc:dA x=some k) (hn:0<n) (hnk:n<=k) (hx:VR Γ w x x'):
  ∃ new':List Value,cB Γ w new new'/\(∀ w1:World,w1.heap=w.heap->(Builtin.firstCells size n x').run P w1= .ok ⟨new'⟩ w1)/\(∀ w1:World,(Builtin.lenOf x').run P w1= .ok k w1):=by
 unfold bJ at h;split at h
 ·simp [dA] at hc;omega
 ·rename_i b off len cap
  simp only [dA,Option.some.injEq] at hc;subst hc;rw [if_neg (by omega)] at h;obtain ⟨cs',h1,h2,h3⟩:=pT (P:=P) hR h;obtain ⟨b1,o1,e1,hd,hs⟩:=hx.ej;cases e1;rcases hs with ⟨hcap,hl,a',rfl,ha⟩ |⟨s,c',a',hcap,rfl,hl,hr⟩
  ·obtain rfl:=ha.resolve_left (fun x=>by omega)
   exact ⟨cs',h1,fun w1 hw=>by simp only [Builtin.firstCells];exact h3 w1 hw,fun w1=>rfl⟩
  ·rcases hr with ⟨h0,h0',_⟩ |⟨rfl,_⟩
   ·omega
   ·exact ⟨cs',h1,fun w1 hw=>by simp only [Builtin.firstCells];exact h3 w1 hw,fun w1=>rfl⟩
 ·rename_i s
  simp only [dA,Option.some.injEq] at hc;subst hc;cases h;rw [hx.cK];refine ⟨((bl s).take n).map fun c=> .int .u8 c.toNat,?_,fun w1 hw=>?_,fun w1=>rfl⟩
  ·generalize (bl s).take n=l
   induction l with
   |nil=>exact .nil
   |cons c l ih=>exact .cons (.int _ _) ih
  ·simp only [Builtin.firstCells,Sem.run_pure,yr]
   congr 1
   apply Array.toList_inj.1;simp [ba]
 ·cases h
theorem kC {xt:TypeId} (h:isInt P xt=false):∃ d,P.underlying xt=some d/\∀ k,d≠ .int k:=by
 unfold isInt at h;split at h
 ·cases h
 ·cases h
 ·rename_i h1 h2
  cases hu:P.underlying xt with
  |none=>exact absurd hu h2
  |some d=>exact ⟨d,rfl,fun k e=>h1 k (by rw [hu,e])⟩
set_option maxHeartbeats 2000000 in
theorem n9 {t xt ty e:TypeId} {i:TypeInfo} {ats:Array TypeId} (h0:ats[0]? =some t) (h1:ats[1]? =some xt) (hx:isInt P xt=false) (hu:P.underlying t=some (.slice e)) (hi:P.info? e=some i)
  {a:Addr} {sLen sCap n:Nat} {x':Value} {news:Array Value} (hlen:(Builtin.lenOf x').run P w= .ok n w) (hfit:sLen+n<=sCap) (hnew:(Builtin.firstCells i.size n x').run P w= .ok news w) {w':World}
  (hst:(storeCells (a.add (sLen*i.size)) news.toList).run P w= .ok () w'):
  (Builtin.append_ ats ty #[.slice (some a) sLen sCap,x']).run P w= .ok (.slice (some a) (sLen+n) sCap) w':=by
 obtain ⟨d,hd,hnd⟩:=kC hx
 cases d<;>first
  |exact absurd rfl (hnd _)
  |simp [Builtin.append_,h0,h1,run_underlying hu,run_underlying hd,aX hi,hlen,hfit,hnew,hst]
set_option maxHeartbeats 2000000 in
theorem ma {t xt ty e:TypeId} {i:TypeInfo} {z:Value} {ats:Array TypeId} (h0:ats[0]? =some t) (h1:ats[1]? =some xt) (hx:isInt P xt=false) (hu:P.underlying t=some (.slice e)) (hi:P.info? e=some i)
  (hzv:zeroOf P e=some z) {base:Option Addr} {sLen sCap n:Nat} {x':Value} {news olds:Array Value} (hlen:(Builtin.lenOf x').run P w= .ok n w) (hg:sCap<sLen+n) (hroom:(sLen+n)*(i.bytes+1)<=roomy)
  (hold:(Builtin.firstCells i.size sLen (.slice base sLen sCap)).run P w.drew= .ok olds w.drew) (hnew:(Builtin.firstCells i.size n x').run P w.drew= .ok news w.drew):
  (Builtin.append_ ats ty #[.slice base sLen sCap,x']).run P w= .ok (.slice (some ⟨w.heap.size,0,none⟩) (sLen+n) (grownCap w (sLen+n) sCap e))
   (w.drew.alloc (.cells (olds++news++Builtin.zeroCells z.cells (grownCap w (sLen+n) sCap e - (sLen+n))) e)):=by
 obtain ⟨d,hd,hnd⟩:=kC hx;have hr:(sLen+n)*i.bytes+(sLen+n)<=1099511627776:=by rw [←Nat.mul_succ];exact hroom
 have h63:¬ (9223372036854775807<((sLen:Int)+(n:Int))):=by omega
 have hcap:=nextslicecap_le hg;have h48:¬ (281474976710656<Builtin.nextslicecap (sLen+n) sCap*i.bytes):=by
  have:=Nat.mul_le_mul_right i.bytes hcap;rw [Nat.mul_assoc] at this;omega
 have hn:¬ (sLen+n<=sCap):=by omega
 cases d<;>first
  |exact absurd rfl (hnd _)
  |simp [Builtin.append_,h0,h1,run_underlying hu,run_underlying hd,aX hi,hlen,hn,h63,h48,jC hi,Question.forced,hold,hnew,dd hzv,newRow,grownCap]
theorem we (hR:Rh Γ H w) (o:bA) (o':Obj) (ho:gz (Γ.next H.n (w.heap.size,0)) (w.drew.alloc o') H.n o):
  Rh (Γ.next H.n (w.heap.size,0)) (H.new o) (w.drew.alloc o')/\Ext Γ H w (Γ.next H.n (w.heap.size,0)) (H.new o) (w.drew.alloc o'):=by
 obtain ⟨h1,h2⟩:=hR.drew;obtain ⟨h3,h4⟩:=h1.new o o' ho;exact ⟨h3,h2.trans h4⟩
theorem oB (hR:Rh Γ H w) (fz0:Nat) {e:TypeId} {i:TypeInfo} {z:Value} (hz:z.cells.size=i.size) {sLen sCap n:Nat} {old new old' new':List Value} (ho:cB Γ w old old') (hn:cB Γ w new new')
  (hlo:old.length=sLen*i.size) (hln:new.length=n*i.size) {s:Sem Value}
  (hs:s.run P w= .ok (.slice (some ⟨w.heap.size,0,none⟩) (sLen+n) (grownCap w (sLen+n) sCap e)) (w.drew.alloc (.cells (⟨old'⟩++⟨new'⟩++Builtin.zeroCells z.cells (grownCap w (sLen+n) sCap e - (sLen+n))) e))):
  Good Γ H w ((bz s).run P w) (.val (.slice (some ⟨H.n,0,none⟩) (sLen+n) (eE+i.size)) (H.new (.cells (old++new) e fz0 false false))):=by
 have hge:=grownCap_ge w (sLen+n) sCap e;have hn0:¬ Γ.bj H.n:=fun x=>by have:=hR.bj _ x;omega
 have hsame:eN w (w.drew.alloc (.cells (⟨old'⟩++⟨new'⟩++Builtin.zeroCells z.cells (grownCap w (sLen+n) sCap e - (sLen+n))) e)):=(hR.drew.2.same).trans (.alloc _ _);have hsize:(⟨old'⟩++⟨new'⟩++Builtin.zeroCells z.cells (grownCap w (sLen+n) sCap e - (sLen+n)):Array Value).size=grownCap w (sLen+n) sCap e*i.size:=by
  have h1:=ho.length;have h2:=hn.length;simp only [Array.size_append,List.size_toArray,size_zeroCells,hz,←h1,←h2,hlo,hln,←zag]
  congr 1
  omega
 have hon:=ho.append hn;obtain ⟨h3,h4⟩:=we hR (.cells (old++new) e fz0 false false) (.cells (⟨old'⟩++⟨new'⟩++Builtin.zeroCells z.cells (grownCap w (sLen+n) sCap e - (sLen+n))) e) (by
  refine ⟨_,0,0,by rw [Ga.bp];exact heap_alloc_new (w:=w.drew),?_,?_,?_,?_,fun x=>(by cases x)⟩
  ·rw [Ga.bp,hsize]
   have:(sLen+n)*i.size<=grownCap w (sLen+n) sCap e*i.size:=Nat.mul_le_mul_right _ hge;rw [zag] at this;simp only [zaf];omega
  ·intro j v hj
   obtain ⟨v',a,b⟩:=hon.get hj;refine ⟨v',?_,b.mono (Ga.le_next hn0) hsame⟩;rw [Ga.bp];have hlt:j<(old'++new').length:=by
    rcases Nat.lt_or_ge j (old'++new').length with x |x
    ·exact x
    ·rw [List.getElem?_eq_none x] at a;cases a
   have e1:(⟨old'⟩++⟨new'⟩++Builtin.zeroCells z.cells (grownCap w (sLen+n) sCap e - (sLen+n)):Array Value)[0+j]? =(old'++new'++(Builtin.zeroCells z.cells (grownCap w (sLen+n) sCap e - (sLen+n))).toList)[j]? :=by
    rw [←Array.getElem?_toList];simp
   rw [e1,List.getElem?_append_left hlt,a]
  ·intro x;cases x
  ·exact fun _=>⟨zai _,fun j a b=>by omega⟩)
 refine ⟨_,_,_,ai hs,?_,h3,h4⟩;refine .dV (.inr rfl) hge (.inr ⟨by simp [Ga.at,Ga.bp],⟨_,e,(0,0),heap_alloc_new (w:=w.drew),?_⟩⟩);rw [hsize];simp
theorem CQ (hR:Rh Γ H w) {b off len c' n size:Nat} {cs:List Value} {e:TypeId} {fz:Nat} {ex sh:Bool} (hb:H.get b=some (.cells cs e fz ex sh)) (hro:dO<=b) (hle:off+len*size<=cs.length) (hsh:sh=false) (hfz:fz<=off+len*size)
  {new new':List Value} (hnew:cB Γ w new new') (hln:new.length=n*size) (hone:new.all one=true) (hfit:len+n<=c') (hroom:Room w (Γ.at b off) (c'*size)) (_hlc:len<=c') (_hd:Γ.bj b) {s:Sem Value}
  (hs:∀ w1,(storeCells (Γ.at b (off+len*size)) new').run P w= .ok () w1->s.run P w= .ok (.slice (some (Γ.at b off)) (len+n) c') w1):
  Good Γ H w ((bz s).run P w) (.val (.slice (some ⟨H.n,0,none⟩) (len+n) (eE+size)) ((H.del b).new (.cells (((cs.drop off).take (len*size))++new) e (fz - off) false false))):=by
 subst hsh;obtain ⟨cs',lo,hi,hr⟩:=hR.obj b _ hb;obtain ⟨cs2,e2,f2,hb2,hsz2⟩:=hroom;have hb2':w.heap[(Γ.φ b).1]? =some (.cells cs2 e2 f2):=hb2;rw [hr.block] at hb2';cases hb2';have hroom2:(Γ.φ b).2+off+c'*size<=cs'.size:=by simpa [Ga.at] using hsz2
 have hmul:(len+n)*size<=c'*size:=Nat.mul_le_mul_right _ hfit;rw [zag] at hmul;have hlen:=hnew.length;have hn0:¬ Γ.bj H.n:=fun x=>by have:=hR.bj _ x;omega
 have hfr:∀ j,lo<=j->j<hi->j<(Γ.φ b).2+fz:=fun j h1 h2=>((hr.frozen hro).2 j h1 h2).resolve_right (by simp)
 have hone':∀ v'∈new',v'.oneCell'=true:=by
  intro v' hv';obtain ⟨k,hk,rfl⟩:=List.mem_iff_getElem.1 hv';have hk':k<new.length:=by omega
  obtain ⟨x,h1,h2⟩:=hnew.get (zaj hk');rw [zaj hk] at h1;cases h1;exact h2.one (List.all_eq_true.1 hone _ (List.getElem_mem _))
 have hrun:=mB (P:=P) (Γ.φ b).1 ((Γ.φ b).2+(off+len*size)) new' 0 w cs' e lo hi hr.block (by omega) (fun j h1 h2 ⟨h3,h4⟩=>by have:=hfr j h3 h4;omega) hone';have hsame:∀ w1,(w1=w∨w1=lay w (Γ.φ b).1 (.cells ⟨ay cs'.toList ((Γ.φ b).2+(off+len*size)+0) new'⟩ e (lo,hi)))->eN w w1:=by
  rintro w1 (rfl |rfl)
  ·exact .refl _
  ·exact iH hr.block (by simp [bf])
 have hw1:∃ w1,(storeCells (Γ.at b (off+len*size)) new').run P w= .ok () w1/\(w1=w∨w1=lay w (Γ.φ b).1 (.cells ⟨ay cs'.toList ((Γ.φ b).2+(off+len*size)+0) new'⟩ e (lo,hi)))/\
   w1.heap[(Γ.φ b).1]? =some (.cells ⟨ay cs'.toList ((Γ.φ b).2+(off+len*size)) new'⟩ e (lo,hi)):=by
  by_cases hne:new'= []
  ·rw [if_pos hne] at hrun
   exact ⟨w,hrun,.inl rfl,by subst hne;simpa [ay] using hr.block⟩
  ·rw [if_neg hne] at hrun
   exact ⟨_,hrun,.inr rfl,by simpa using b7 hr.block⟩
 obtain ⟨w1,hst,hwor,hblk⟩:=hw1;have hs1:=hsame w1 hwor;have hother:∀ x,x≠(Γ.φ b).1->w1.heap[x]? =w.heap[x]? :=by
  rcases hwor with rfl |rfl
  ·exact fun _ _=>rfl
  ·exact fun x hx=>cg hx
 have hsz1:w1.heap.size=w.heap.size:=by rcases hwor with rfl |rfl<;>simp
 have hos:w1.os=w.os/\w1.tape=w.tape/\w1.output=w.output:=by rcases hwor with rfl |rfl<;>exact ⟨rfl,rfl,rfl⟩
 have hdel:=hR.del b;have hlive:∀ x y,(H.del b).get x=some y->H.get x=some y/\x≠b:=by
  intro x y hx;rw [IH.cO] at hx;by_cases e1:x=b
  ·rw [if_pos e1] at hx;cases hx
  ·rw [if_neg e1] at hx;exact ⟨hx,e1⟩
 have hp:∀ x y,(H.del b).get x=some y->(Γ.φ x).1≠(Γ.φ b).1:=fun x y hx e1=>(hlive x y hx).2 (hR.inj b x _ y hro hb (hlive x y hx).1 e1.symm).symm
 have hobj:gz (Γ.next (H.del b).n ((Γ.φ b).1,(Γ.φ b).2+off)) w1 (H.del b).n (.cells (((cs.drop off).take (len*size))++new) e (fz - off) false false):=by
  refine ⟨⟨ay cs'.toList ((Γ.φ b).2+(off+len*size)) new'⟩,lo,hi,by rw [Ga.bp];exact hblk,?_,?_,fun x=>(by cases x),?_,fun x=>(by cases x)⟩
  ·rw [Ga.bp]
   simp [bf];omega
  ·intro j v hj
   rw [Ga.bp];have hmono:=Ga.le_next (p:=((Γ.φ b).1,(Γ.φ b).2+off)) hn0;have hget:∀ q:Nat,(⟨ay cs'.toList ((Γ.φ b).2+(off+len*size)) new'⟩:Array Value)[q]? =(ay cs'.toList ((Γ.φ b).2+(off+len*size)) new')[q]? :=fun q=>by rw [←Array.getElem?_toList]
   rw [hget,fb];by_cases hjl:j<len*size
   ·rw [List.getElem?_append_left (by simp;omega),List.getElem?_take_of_lt hjl,List.getElem?_drop] at hj
    obtain ⟨v',h1,h2⟩:=hr.cell _ _ hj;refine ⟨v',?_,h2.mono hmono hs1⟩;rw [if_neg (by simp only;omega),Array.getElem?_toList,←h1]
    congr 1
    simp only;omega
   ·rw [List.getElem?_append_right (by simp;omega)] at hj
    have hl2:(List.take (len*size) (List.drop off cs)).length=len*size:=by simp;omega
    rw [hl2] at hj;obtain ⟨v',h1,h2⟩:=hnew.get hj;have hlt:j - len*size<new'.length:=by
     rcases Nat.lt_or_ge (j - len*size) new'.length with x |x
     ·exact x
     ·rw [List.getElem?_eq_none x] at h1;cases h1
    refine ⟨v',?_,h2.mono hmono hs1⟩;rw [if_pos ⟨by simp only;omega,by simp only;omega,by simp only [Array.length_toList];omega⟩,←h1]
    congr 1
    simp only;omega
  ·intro _
   refine ⟨(hr.frozen hro).1,fun j h1 h2=>?_⟩;rw [Ga.bp];have:=hfr j h1 h2
   left
   simp only;omega
 obtain ⟨h3,h4,h5⟩:=hdel.1.take (w':=w1) (.cells (((cs.drop off).take (len*size))++new) e (fz - off) false false) ((Γ.φ b).1,(Γ.φ b).2+off) hp hs1 hother hobj;refine ⟨_,w1,_,ai (hs w1 hst),?_,h3,?_⟩
 ·have hat:(Γ.next (H.del b).n ((Γ.φ b).1,(Γ.φ b).2+off)).at H.n 0=Γ.at b off:=by
   have:(Γ.next (H.del b).n ((Γ.φ b).1,(Γ.φ b).2+off)).φ H.n=((Γ.φ b).1,(Γ.φ b).2+off):=Ga.bp _ _ _;simp [Ga.at]
  refine .dV (.inr rfl) hfit (.inr ⟨hat.symm,?_⟩);exact ⟨_,e,(lo,hi),hblk,by simp [bf,Ga.at];omega⟩
 ·refine ⟨by simp,fun i hi'=>h4 i (by simpa using hi'),?_,Nat.le_of_eq hsz1.symm,hos.1,hos.2.1,hos.2.2,hs1,?_,?_,fun i hi' y hy=>⟨y,by
   rw [IH.az,if_neg (by have:=hR.ro;simp;omega)] at hy;exact (hlive i y hy).1⟩⟩
  ·intro i
   simp only [Ga.next,IH.Qb,IH.W7];constructor
   ·rintro (x |x)
    ·exact .inl x
    ·exact .inr (by omega)
   ·rintro (x |x)
    ·exact .inl x
    ·exact .inr (by omega)
  ·intro x _ hx
   exact hother x fun e1=>hx ⟨b,_,hro,hb,e1.symm⟩
  ·rintro x _ ⟨i,y,hi',hy,e1⟩
   rw [IH.az] at hy;by_cases e2:i=(H.del b).n
   ·subst e2
    rw [Ga.bp] at e1;exact ⟨b,_,hro,hb,e1⟩
   ·rw [if_neg e2] at hy
    obtain ⟨hy',_⟩:=hlive i y hy;refine ⟨i,y,hi',hy',?_⟩;rw [←e1,h5.φ i (hR.live i y hy')]
theorem uk (hR:Rh Γ H w) {t xt ty e:TypeId} {i:TypeInfo} {z:Value} {ats:Array TypeId} (h0:ats[0]? =some t) (h1:ats[1]? =some xt) (hxt:isInt P xt=false) (hu:P.underlying t=some (.slice e)) (hi:P.info? e=some i)
  (hzv:zeroOf P e=some z) (hzs:z.cells.size=i.size) {n:Nat} {s x s' x':Value} {new:List Value} {res:ag} (hsl:bJ H i.size n x=some new) (hct:dA x=some n) (hn:0<n) (hsz:0<i.size)
  (hln:new.length=n*i.size) (hone:new.all one=true) (h:c9 H e i.size i.bytes n new s=some res) (hs:VR Γ w s s') (hx:VR Γ w x x'):
  Good Γ H w ((bz (Builtin.append_ ats ty #[s',x'])).run P w) res:=by
 obtain ⟨new',hnew,hfirst,hlen⟩:=A4 (P:=P) hR hsl hct hn (zai _) hx;unfold c9 at h;split at h
 ·split at h
  ·rename_i hroom
   cases h;obtain ⟨_,_,rfl⟩:=hs.jm;have hrun:=ma (ty:=ty) (base:=none) (sLen:=0) (sCap:=0) (n:=n) (olds:=#[]) (w:=w) h0 h1 hxt hu hi hzv (hlen w) (by omega) (by simpa using hroom) rfl (hfirst w.drew rfl);have:=oB (s:=Builtin.append_ ats ty #[.slice none 0 0,x']) (sLen:=0) (sCap:=0) (old:= []) (old':= []) hR 0 hzs .nil hnew (by simp) hln hrun;simpa using this
  ·cases h
 ·rename_i b off len cap
  obtain ⟨b1,o1,e1,hd,hsr⟩:=hs.ej;cases e1;split at h
  ·rename_i hroom
   split at h
   ·rename_i hcap
    split at h
    ·rename_i cs e' fz ex sh hb
     split at h
     ·rename_i hcond
      cases h;simp only [zae,decide_eq_true_eq,beq_iff_eq,Bool.not_eq_true'] at hcond;obtain ⟨⟨⟨⟨⟨hro,hle⟩,rfl⟩,hsh⟩,hfz⟩,hce⟩:=hcond;rcases hsr with ⟨hc,_⟩ |⟨s1,c',a',hce',rfl,hlc,hr⟩
      ·omega
      ·obtain rfl:s1=i.size:=by omega
       subst hce';have hca:H.bq b off (len*i.size)=some ((cs.drop off).take (len*i.size)):=by
        simp only [IH.bq,hb];rw [if_pos hle]
       by_cases hg:c'<len+n
       ·-- a new array is made
        have hdel:=hR.del b;have hold:∃ old':List Value,cB Γ w ((cs.drop off).take (len*i.size)) old'/\(Builtin.firstCells i.size len (.slice (some a') len c')).run P w.drew= .ok ⟨old'⟩ w.drew:=by
         by_cases hl0:len=0
         ·subst hl0
          refine ⟨[],by simp;exact .nil,?_⟩;simp [Builtin.firstCells,loadCells,loadCellsFrom]
         ·rcases hr with ⟨hc0,hl0',_⟩ |⟨rfl,_⟩
          ·omega
          ·obtain ⟨old',h3,_,h4⟩:=pT (P:=P) hR hca
           exact ⟨old',h3,by simp only [Builtin.firstCells];exact h4 w.drew rfl⟩
        obtain ⟨old',h3,h4⟩:=hold;have hrun:=ma (ty:=ty) h0 h1 hxt hu hi hzv (hlen w) hg hroom h4 (hfirst w.drew rfl);have h5:=oB (s:=Builtin.append_ ats ty #[.slice (some a') len c',x']) hdel.1 (fz - off) hzs h3 hnew (by simp;omega) hln hrun;obtain ⟨v',w',Γ',e5,h6,h7,h8⟩:=h5;exact ⟨v',w',Γ',e5,h6,h7,hdel.2.trans h8⟩
       ·-- it lies behind what was there
        rcases hr with ⟨hc0,hl0',_⟩ |⟨rfl,hroom'⟩
        ·omega
        ·exact CQ hR hb hro hle hsh hfz hnew hln hone (by omega) hroom' hlc hd (fun w1 hst=>n9 (ty:=ty) h0 h1 hxt hu hi (hlen w) (by omega) (hfirst w rfl) (w':=w1) (by rw [gV];exact hst))
     ·cases h
    ·cases h
   ·split at h
    ·rename_i hcap hfit
     split at h
     ·rename_i H' hst
      cases h;rcases hsr with ⟨hc,hlc,a',rfl,ha⟩ |⟨s1,c',a',hce',rfl,hlc,hr⟩
      ·obtain rfl:=ha.resolve_left (fun x=>by omega)
       obtain ⟨w',h3,h4,h5⟩:=ml (P:=P) hR hst hnew;refine ⟨_,w',Γ,ai (n9 (ty:=ty) h0 h1 hxt hu hi (hlen w) hfit (hfirst w rfl) (w':=w') (by rw [gV];exact h3)),?_,h4,h5⟩;exact .slice hd (by omega) hfit (.inr rfl)
      ·omega
     ·cases h
    ·rename_i hcap hfit
     split at h
     ·rename_i old hold
      cases h;rcases hsr with ⟨hc,hlc,a',rfl,ha⟩ |⟨s1,c',a',hce',rfl,hlc,hr⟩
      ·have holdr:∃ old':List Value,cB Γ w old old'/\(Builtin.firstCells i.size len (.slice (some a') len cap)).run P w.drew= .ok ⟨old'⟩ w.drew/\old.length=len*i.size:=by
        by_cases hl0:len=0
        ·subst hl0
         rw [if_pos rfl] at hold;cases hold;exact ⟨[],.nil,by simp [Builtin.firstCells,loadCells,loadCellsFrom],by simp⟩
        ·rw [if_neg hl0] at hold
         obtain rfl:=ha.resolve_left (fun x=>by omega);obtain ⟨old',h3,h4',h4⟩:=pT (P:=P) hR hold;exact ⟨old',h3,by simp only [Builtin.firstCells];exact h4 w.drew rfl,h3.length.trans h4'⟩
       obtain ⟨old',h3,h4,h5⟩:=holdr;have hrun:=ma (ty:=ty) h0 h1 hxt hu hi hzv (hlen w) (by omega) hroom h4 (hfirst w.drew rfl);exact oB (s:=Builtin.append_ ats ty #[.slice (some a') len cap,x']) hR 0 hzs h3 hnew h5 hln hrun
      ·omega
     ·cases h
  ·cases h
 ·cases h
end Go.Iv
/- The operations, one by one (the sixth part): the builtin functions, conversions. -/
namespace Go.Iv
open Go
variable {P:Program} {Γ:Ga} {H:IH} {w:World}
set_option maxHeartbeats 2000000 in
theorem EO {t xt ty e:TypeId} {i:TypeInfo} {ats:Array TypeId} (h0:ats[0]? =some t) (h1:ats[1]? =some xt) (hx:isInt P xt=false) (hu:P.underlying t=some (.slice e)) (hi:P.info? e=some i)
  {sLen sCap:Nat} {x':Value} (hlen:(Builtin.lenOf x').run P w= .ok 0 w) (hfit:sLen+0<=sCap) (hnew:(Builtin.firstCells i.size 0 x').run P w= .ok #[] w):
  (Builtin.append_ ats ty #[.slice none sLen sCap,x']).run P w= .ok (.slice none sLen sCap) w:=by
 obtain ⟨d,hd,hnd⟩:=kC hx;have hfit':sLen<=sCap:=hfit
 cases d<;>first
  |exact absurd rfl (hnd _)
  |simp [Builtin.append_,h0,h1,run_underlying hu,run_underlying hd,aX hi,hlen,hfit',hnew]
theorem yN (hR:Rh Γ H w) {ats:Array TypeId} {ty:TypeId} {s x s' x':Value} {res:ag} (h:iI P H ats s x=some res) (hs:VR Γ w s s') (hx:VR Γ w x x'):
  Good Γ H w ((bz (Builtin.append_ ats ty #[s',x'])).run P w) res:=by
 unfold iI at h;split at h
 ·rename_i t xt h0 h1
  split at h
  ·cases h
  ·rename_i hxt
   have hxt':isInt P xt=false:=by simpa using hxt
   split at h
   ·rename_i e i n he hct
    obtain ⟨hu,hi⟩:=eP he;split at h
    ·rename_i z new hz hsl
     split at h
     ·rename_i hcond
      simp only [zae,decide_eq_true_eq,beq_iff_eq] at hcond;obtain ⟨⟨⟨hsz,hzs⟩,hln⟩,hone⟩:=hcond;split at h
      ·rename_i hn
       subst hn;split at h
       ·rename_i a l c
        cases h;have hnil:∀ (a':Option Addr) (c':Nat),l<=c'->s'= .slice a' l c'->(Builtin.append_ ats ty #[s',x']).run P w= .ok s' w:=by
         intro a' c' hlc e1;subst e1;obtain ⟨d,hd,hnd⟩:=kC hxt';have hlen:(Builtin.lenOf x').run P w= .ok 0 w/\(Builtin.firstCells i.size 0 x').run P w= .ok #[] w:=by
          cases x with
          |slice ax lx cx=>
           simp only [dA,Option.some.injEq] at hct;subst hct;cases ax with
           |none=>obtain ⟨_,_,rfl⟩:=hx.jm;exact ⟨rfl,rfl⟩
           |some ax=>
            obtain ⟨b1,o1,_,_,hsr⟩:=hx.ej;rcases hsr with ⟨_,_,a2,rfl,_⟩ |⟨s2,c2,a2,_,rfl,_,_⟩<;>exact ⟨rfl,by simp [Builtin.firstCells,loadCells,loadCellsFrom]⟩
          |string sx=>
           simp only [dA,Option.some.injEq] at hct;rw [hx.cK];refine ⟨by simp [Builtin.lenOf,hct],?_⟩;simp [Builtin.firstCells]
          |_=>simp [dA] at hct
         cases a' with
         |some a'=>exact n9 (news:=#[]) h0 h1 hxt' hu hi hlen.1 (by omega) hlen.2 (by simp [storeCells])
         |none=>exact EO h0 h1 hxt' hu hi hlen.1 (by omega) hlen.2
        cases a with
        |none=>
         obtain ⟨rfl,rfl,e1⟩:=hs.jm;exact aj hR hs (ai (hnil none 0 (zai _) e1))
        |some a=>
         obtain ⟨b1,o1,_,_,hsr⟩:=hs.ej;rcases hsr with ⟨_,hlc,a2,e1,_⟩ |⟨s2,c2,a2,_,e1,hlc,_⟩
         ·exact aj hR hs (ai (hnil _ _ hlc e1))
         ·exact aj hR hs (ai (hnil _ _ hlc e1))
       ·cases h
      ·exact uk hR h0 h1 hxt' hu hi hz hzs hsl hct (by omega) hsz hln hone h hs hx
     ·cases h
    ·cases h
   ·cases h
 ·cases h
theorem IM (hR:Rh Γ H w) {ats:Array TypeId} {t ty:TypeId} (h0:ats[0]? =some t) {x x' v:Value} (h:eD P H t x=some v) (hx:VR Γ w x x'):(Builtin.len_ ats ty #[x']).run P w= .ok v w/\aV v=true:=by
 unfold eD at h;split at h
 ·rename_i s hu
  cases h;rw [hx.cK];exact ⟨by simp [Builtin.len_,h0,run_underlying hu,goInt],rfl⟩
 ·rename_i n e hu
  cases h;exact ⟨by simp [Builtin.len_,h0,run_underlying hu,goInt],rfl⟩
 ·rename_i e a n c hu
  cases h;cases a with
  |none=>obtain ⟨rfl,_,rfl⟩:=hx.jm;exact ⟨by simp [Builtin.len_,h0,run_underlying hu,goInt],rfl⟩
  |some a=>
   obtain ⟨b1,o1,_,_,hsr⟩:=hx.ej;rcases hsr with ⟨_,_,a2,rfl,_⟩ |⟨s2,c2,a2,_,rfl,_,_⟩<;>exact ⟨by simp [Builtin.len_,h0,run_underlying hu,goInt],rfl⟩
 ·rename_i k e hu
  cases h;rw [hx.Eu];exact ⟨by simp [Builtin.len_,h0,run_underlying hu,goInt],rfl⟩
 ·rename_i k e r hu
  split at h
  ·rename_i es ck hb
   cases h;obtain ⟨_,rfl⟩:=hx.Ry;obtain ⟨es',ho,hE⟩:=hR.obj r _ hb;have hlen:es'.size=es.length:=by
    have:∀ {a b:List MapEntry},gP Γ w a b->a.length=b.length:=by
     intro a b hab
     induction hab with
     |nil=>rfl
     |cons _ _ _ _ _ ih=>simp [ih]
    simpa using (this hE).symm
   refine ⟨?_,rfl⟩;simp [Builtin.len_,h0,run_underlying hu,iZ ho,hlen,goInt]
  ·cases h
 ·cases h
theorem Ek (hR:Rh Γ H w) {ats:Array TypeId} {ty:TypeId} {d x d' x':Value} {res:ag} (h:JP P H ats d x=some res) (hd:VR Γ w d d') (hx:VR Γ w x x'):
  Good Γ H w ((bz (Builtin.copy_ ats ty #[d',x'])).run P w) res:=by
 unfold JP at h;split at h
 ·rename_i t base dLen cap sl h0 hct
  split at h
  ·rename_i e i he
   obtain ⟨hu,hi⟩:=eP he;have hd':∃ base' cap',d'= .slice base' dLen cap'/\(∀ b off s,base=some ⟨b,off,s⟩->0<dLen->s=none/\base'=some (Γ.at b off)):=by
    cases base with
    |none=>obtain ⟨rfl,rfl,rfl⟩:=hd.jm;exact ⟨_,_,rfl,fun _ _ _ e=>by cases e⟩
    |some a=>
     obtain ⟨b1,o1,rfl,_,hsr⟩:=hd.ej;rcases hsr with ⟨_,hlc,a2,rfl,ha⟩ |⟨s2,c2,a2,_,rfl,hlc,hr⟩
     ·refine ⟨_,_,rfl,fun b off s e hp=>?_⟩
      cases e;exact ⟨rfl,by rw [ha.resolve_left (fun x=>by omega)]⟩
     ·refine ⟨_,_,rfl,fun b off s e hp=>?_⟩
      cases e;rcases hr with ⟨_,_,_⟩ |⟨rfl,_⟩
      ·omega
      ·exact ⟨rfl,rfl⟩
   obtain ⟨base',cap',rfl,hbase⟩:=hd';split at h
   ·rename_i hmin
    cases h;have hlenx:(Builtin.lenOf x').run P w= .ok sl w:=by
     cases x with
     |slice ax lx cx=>
      simp only [dA,Option.some.injEq] at hct;subst hct;cases ax with
      |none=>obtain ⟨rfl,_,rfl⟩:=hx.jm;rfl
      |some ax=>
       obtain ⟨b1,o1,_,_,hsr⟩:=hx.ej;rcases hsr with ⟨_,_,a2,rfl,_⟩ |⟨s2,c2,a2,_,rfl,_,_⟩<;>rfl
     |string sx=>simp only [dA,Option.some.injEq] at hct;rw [hx.cK,←hct];rfl
     |_=>simp [dA] at hct
    have hfirst:(Builtin.firstCells i.size 0 x').run P w= .ok #[] w:=by
     cases x with
     |slice ax lx cx=>
      cases ax with
      |none=>obtain ⟨rfl,_,rfl⟩:=hx.jm;rfl
      |some ax=>
       obtain ⟨b1,o1,_,_,hsr⟩:=hx.ej;rcases hsr with ⟨_,_,a2,rfl,_⟩ |⟨s2,c2,a2,_,rfl,_,_⟩<;>simp [Builtin.firstCells,loadCells,loadCellsFrom]
     |string sx=>rw [hx.cK];simp [Builtin.firstCells]
     |_=>simp [dA] at hct
    refine aj hR (.int _ _) (ai ?_);cases base'<;>simp [Builtin.copy_,h0,run_underlying hu,hlenx,hmin,aX hi,hfirst,goInt,storeCells]
   ·rename_i hmin
    split at h
    ·rename_i cs b off hsl
     split at h
     ·rename_i H' hst
      cases h;have hpos:0<Nat.min sl dLen:=by omega
      obtain ⟨new',hnew,hfirst,hlen⟩:=A4 (P:=P) hR hsl hct hpos (Nat.min_le_left _ _) hx;obtain ⟨_,rfl⟩:=hbase b off none rfl (Nat.lt_of_lt_of_le hpos (Nat.min_le_right _ _));obtain ⟨w',h3,h4,h5⟩:=ml (P:=P) hR hst hnew;refine ⟨_,w',Γ,ai (v:= .int .i64 (Nat.min sl dLen)) ?_,.int _ _,h4,h5⟩;have hfirst':=hfirst w rfl;simp [Builtin.copy_,h0,run_underlying hu,hlen,aX hi,hfirst',h3,goInt]
     ·cases h
    ·cases h
  ·cases h
 ·cases h
end Go.Iv
/- The operations, one by one (the seventh part): texts, conversions; all operations that call nothing. -/
namespace Go.Iv
open Go
variable {P:Program} {Γ:Ga} {H:IH} {w:World}
theorem lf (hR:Rh Γ H w) {s:Sem Value} {res:ag} (h:cR P H s=some res):Good Γ H w ((bz s).run P w) res:=by
 unfold cR at h;split at h
 ·rename_i v hv
  split at h
  ·rename_i hf;cases h;exact aj hR (.cu hf) (ai (kb hv w))
  ·cases h
 ·cases h
theorem pK {cs:List Value} {bs:List UInt8} (h:bytesOf cs=some bs):∃ ns:List Int,cs=ns.map (Value.int .u8)/\bs=ns.map fun n=>UInt8.ofNat n.toNat:=by
 induction cs generalizing bs with
 |nil=>simp only [bytesOf,Option.some.injEq] at h;subst h;exact ⟨[],rfl,rfl⟩
 |cons v vs ih=>
  simp only [bytesOf] at h;split at h
  ·rename_i b bs' hb hbs
   cases h;obtain ⟨ns,rfl,rfl⟩:=ih hbs;unfold byteOf at hb;split at hb
   ·rename_i n;cases hb;exact ⟨n::ns,rfl,rfl⟩
   ·cases hb
  ·cases h
theorem Ao (ns:List Int):(ns.map (Value.int .u8)).all aV=true:=by
 induction ns with
 |nil=>rfl
 |cons n ns ih=>rw [List.map_cons,List.all_cons,ih];rfl
theorem fold_push (ns:List Int) (s:ByteArray):ns.foldl (fun r n=>r.push (UInt8.ofNat n.toNat)) s=ba (bl s++ns.map fun n=>UInt8.ofNat n.toNat):=by
 induction ns generalizing s with
 |nil=>simp [Sq]
 |cons n ns ih=>
  simp only [List.foldl_cons,ih,List.map_cons]
  congr 1
  have:bl (s.push (UInt8.ofNat n.toNat))=bl s++ [UInt8.ofNat n.toNat]:=by simp [bl,ByteArray.push]
  rw [this];simp
theorem DI:bl ByteArray.empty= []:=rfl
theorem uT (hR:Rh Γ H w) {src dst e:TypeId} {x x':Value} {res:ag} (hs:P.underlying src=some (.slice e)) (hd:P.underlying dst=some .string) (h:db P H e x=some res) (hx:VR Γ w x x'):
  Good Γ H w ((bz (convert src dst x')).run P w) res:=by
 have hconv:∀ a l c,P.underlying e=some (.int .u8)->(convert src dst (.slice a l c)).run P w=(Conv.bytesToString (.slice a l c)).run P w:=by
  intro a l c he;simp [convert,run_underlying hs,run_underlying hd,run_underlying he]
 unfold db at h;split at h
 ·rename_i l c he
  cases h;obtain ⟨_,_,rfl⟩:=hx.jm;refine aj hR (.string _) (ai ?_);rw [hconv _ _ _ he];rfl
 ·rename_i b off len cap he
  obtain ⟨b1,o1,e1,hd',hsr⟩:=hx.ej;cases e1;split at h
  ·rename_i hl0
   cases h;subst hl0;have:∃ a' c',x'= .slice (some a') 0 c':=by
    rcases hsr with ⟨_,_,a2,rfl,_⟩ |⟨s2,c2,a2,_,rfl,_,_⟩<;>exact ⟨_,_,rfl⟩
   obtain ⟨a',c',rfl⟩:=this;refine aj hR (.string _) (ai ?_);rw [hconv _ _ _ he,run_bytesToString w a' 0 c' [] (by simp [loadCells,loadCellsFrom])];rfl
  ·rename_i hl0
   split at h
   ·rename_i cs hc
    split at h
    ·rename_i bs hbs
     cases h;have:∃ c',x'= .slice (some (Γ.at b off)) len c':=by
      rcases hsr with ⟨_,_,a2,rfl,ha⟩ |⟨s2,c2,a2,_,rfl,_,hr⟩
      ·exact ⟨_,by rw [ha.resolve_left (fun x=>by omega)]⟩
      ·rcases hr with ⟨_,_,_⟩ |⟨rfl,_⟩
       ·omega
       ·exact ⟨_,rfl⟩
     obtain ⟨c',rfl⟩:=this;obtain ⟨ns,rfl,rfl⟩:=pK hbs;obtain ⟨cs',h1,h2,h3⟩:=pT (P:=P) hR hc;obtain rfl:=h1.dt (Ao ns);refine aj hR (.string _) (ai ?_);rw [hconv _ _ _ he,run_bytesToString w _ len c' ns (h3 w rfl),fold_push,DI];rfl
    ·cases h
   ·cases h
 ·cases h
theorem oH {w:World} {B:Nat} {cs:Array Value} {e:TypeId} {lo hi:Nat} (h:w.heap[B]? =some (.cells cs e (lo,hi))) {off n:Nat} {sp:Option Nat} (hn:n≠0):
  w.freeze ⟨B,off,sp⟩ n=lay w B (.cells cs e (if lo==hi then (off,off+n) else (min lo off,max hi (off+n)))):=by
 obtain ⟨hlt,hb⟩:=Array.getElem?_eq_some_iff.1 h;simp only [World.freeze,hn,if_false,lay]
 congr 1
 apply Array.ext
 ·simp
 ·intro i h1 h2
  rw [Array.getElem_modify,Array.getElem_setIfInBounds]
  ·by_cases e1:B=i
   ·subst e1;simp [hb]
   ·simp [e1]
  ·simpa using h1
theorem xi (hR:Rh Γ H w) {src dst e:TypeId} {s:ByteArray} {x':Value} {res:ag} (hs:P.underlying src=some .string) (hd:P.underlying dst=some (.slice e)) (h:fk P H e s=some res) (hx:VR Γ w (.string s) x'):
  Good Γ H w ((bz (convert src dst x')).run P w) res:=by
 unfold fk at h;split at h
 ·rename_i he
  cases h;rw [hx.cK];have hge:=grownCap_ge w s.size 0 e;obtain ⟨arr,harr⟩:∃ arr:Array Value,arr=s.data.map (fun b=>Value.int .u8 b.toNat)++Array.replicate (grownCap w s.size 0 e - s.size) (.int .u8 0):=⟨_,rfl⟩;have hsz:arr.size=grownCap w s.size 0 e:=by
   rw [harr];simp only [Array.size_append,Array.size_map,Array.size_replicate];have:s.data.size=s.size:=rfl;omega
  have hnew:=heap_alloc_new (w:=w.drew) (o:= .cells arr e);have hsz0:w.drew.heap.size=w.heap.size:=rfl;rw [hsz0] at hnew;have hrun:(convert src dst (.string s)).run P w= .ok (.slice (some ⟨w.heap.size,0,none⟩) s.size (grownCap w s.size 0 e)) (lay (w.drew.alloc (.cells arr e)) w.heap.size (.cells arr e (arr.size,arr.size+1))):=by
   have hsh:(w.drew.alloc (.cells arr e)).shape? w.heap.size=some (e,arr.size):=by
    simp only [World.shape?,hnew]
   have hfr:=oH (w:=w.drew.alloc (.cells arr e)) (B:=w.heap.size) hnew (off:=arr.size) (sp:=none) (n:=1) (by decide);simp only [beq_self_eq_true,if_true] at hfr;have hcap:(Question.appendCap s.size 0 e).cut (w.tape w.drawn (Question.appendCap s.size 0 e))=grownCap w s.size 0 e:=rfl;simp only [convert,Sem.run_bind,run_underlying hs,run_underlying hd,run_underlying he,Result.andThen_ok,Conv.stringToBytes,run_choose,Question.forced,Bool.false_eq_true,if_false,hcap,←harr];simp only [newRow,Sem.run_bind,run_newObj,Result.andThen_ok,Sem.run_pure,markStringish,run_shape,World.drew_eq,World.alloc_eq,hsz0,hsh,run_freeze,hfr]
  have hn0:¬ Γ.bj H.n:=fun x=>by have:=hR.bj _ x;omega
  have hsame:eN w (lay (w.drew.alloc (.cells arr e)) w.heap.size (.cells arr e (arr.size,arr.size+1))):=((hR.drew.2.same).trans (.alloc _ _)).trans (iH hnew rfl);obtain ⟨h1,h2⟩:=we hR (.cells ((bl s).map fun c=> .int .u8 c.toNat) e 0 false false) (.cells arr e) (by
   refine ⟨arr,0,0,by rw [Ga.bp];exact hnew,?_,?_,fun x=>(by cases x),fun _=>⟨zai _,fun j a b=>by omega⟩,fun x=>(by cases x)⟩
   ·rw [Ga.bp,hsz]
    have:(bl s).length=s.size:=Array.length_toList;simp [this];exact hge
   ·intro j v hj
    rw [List.getElem?_map] at hj;refine ⟨v,?_,?_⟩
    ·rw [Ga.bp,harr,←Array.getElem?_toList]
     simp only [Array.toList_append,Array.toList_map];have hlt:j<(bl s).length:=by
      rcases Nat.lt_or_ge j (bl s).length with x |x
      ·exact x
      ·rw [List.getElem?_eq_none x] at hj;cases hj
     rw [List.getElem?_append_left (by simpa [bl] using hlt),List.getElem?_map];simpa [bl] using hj
    ·cases hc:(bl s)[j]? with
     |none=>rw [hc] at hj;cases hj
     |some c=>rw [hc] at hj;cases hj;exact .int _ _)
  have hb:(H.new (.cells ((bl s).map fun c=> .int .u8 c.toNat) e 0 false false)).get H.n=some (.cells ((bl s).map fun c=> .int .u8 c.toNat) e 0 false false):=by rw [IH.az,if_pos rfl]
  obtain ⟨cs1,lo1,hi1,hr1⟩:=h1.obj _ _ hb;have hblk1:=hr1.block;rw [Ga.bp] at hblk1;simp only at hblk1;rw [hnew] at hblk1;cases hblk1
  obtain ⟨h3,h4⟩:=h1.hX (w':=lay (w.drew.alloc (.cells arr e)) w.heap.size (.cells arr e (arr.size,arr.size+1))) (.cells ((bl s).map fun c=> .int .u8 c.toNat) e 0 false true) hb hR.ro (by simp) rfl rfl rfl (iH hnew rfl)
   (fun x hx=>by rw [Ga.bp] at hx;exact cg hx) (by
    refine ⟨arr,arr.size,arr.size+1,by rw [Ga.bp];exact b7 hnew,hr1.room,fun i v hv=>?_,fun x=>(by cases x),fun _=>⟨Nat.le_succ _,fun j a b=> .inr ⟨rfl,a⟩⟩,fun _=>by rw [Ga.bp]⟩;obtain ⟨v',a,b⟩:=hr1.cell i v hv;exact ⟨v',a,b.mono (.refl _) (iH hnew rfl)⟩)
  have hput:(H.new (.cells ((bl s).map fun c=> .int .u8 c.toNat) e 0 false false)).put H.n (.cells ((bl s).map fun c=> .int .u8 c.toNat) e 0 false true)=H.new (.cells ((bl s).map fun c=> .int .u8 c.toNat) e 0 false true):=IH.L3 _ _ _;rw [hput] at h3 h4;refine ⟨_,_,_,ai hrun,?_,h3,h2.trans h4⟩;refine .dV (.inr rfl) hge (.inr ⟨by simp [Ga.at,Ga.bp],⟨arr,e,_,b7 hnew,by simp;omega⟩⟩)
 ·cases h
theorem oZ (hR:Rh Γ H w) {src dst e0 e:TypeId} {b off l c:Nat} {x':Value} {res:ag} (hs:P.underlying src=some (.slice e0)) (hd:P.underlying dst=some (.slice e))
  (h:hM P H src dst e b off l c=some res) (hx:VR Γ w (.slice (some ⟨b,off,none⟩) l c) x'):Good Γ H w ((bz (convert src dst x')).run P w) res:=by
 unfold hM at h;split at h
 ·rename_i hsd
  split at h
  ·rename_i cs e' fz ex sh he hb
   split at h
   ·rename_i hcond
    cases h;simp only [zae,decide_eq_true_eq,beq_iff_eq] at hcond;obtain ⟨⟨hro,hfz⟩,hexsh⟩:=hcond;subst hfz;obtain ⟨cs',lo,hi,hr⟩:=hR.obj b _ hb;have hbase:(Γ.φ b).2=0:=by
     simp only [Bool.or_eq_true] at hexsh;rcases hexsh with x |x
     ·exact (hr.lL x).1
     ·exact hr.LW x
    have hfro:∀ j,lo<=j->j<hi->cs'.size<=j:=fun j h1 h2=>by
     rcases (hr.frozen hro).2 j h1 h2 with y |⟨_,y⟩
     ·omega
     ·exact y
    have hblock:∃ a' l' c',x'= .slice (some a') l' c'/\a'.block=(Γ.φ b).1:=by
     obtain ⟨b1,o1,e1,_,hsr⟩:=hx.ej;cases e1;rcases hsr with ⟨_,_,a2,rfl,ha⟩ |⟨s2,c2,a2,_,rfl,_,hr2⟩
     ·exact ⟨_,_,_,rfl,by rcases ha with ⟨_,x⟩ |rfl<;>first |exact x |rfl⟩
     ·exact ⟨_,_,_,rfl,by rcases hr2 with ⟨_,_,x⟩ |⟨rfl,_⟩<;>first |exact x |rfl⟩
    obtain ⟨a',l',c',rfl,hblk⟩:=hblock;have hsh:w.shape? (Γ.φ b).1=some (e',cs'.size):=by simp only [World.shape?,hr.block]
    obtain ⟨fr,hfr⟩:∃ fr,fr=(if lo==hi then (cs'.size,cs'.size+1) else (min lo cs'.size,max hi (cs'.size+1))):=⟨_,rfl⟩;have hfrz:=oH (w:=w) hr.block (off:=cs'.size) (sp:=none) (n:=1) (by decide);rw [←hfr] at hfrz;have hrun:(convert src dst (.slice (some a') l' c')).run P w= .ok (.slice (some a') l' c') (lay w (Γ.φ b).1 (.cells cs' e' fr)):=by
     simp only [convert,Sem.run_bind,run_underlying hs,run_underlying hd,run_underlying he,Result.andThen_ok,hsd,markStringish,run_shape,hblk,hsh,run_freeze,hfrz,Sem.run_pure]
    have hfr1:∀ j,fr.1<=j->cs'.size<=j:=by
     intro j hj;rw [hfr] at hj;by_cases hlh:lo=hi
     ·subst hlh;simp at hj;exact hj
     ·have hne:(lo==hi)=false:=by simpa using hlh
      simp only [hne,Bool.false_eq_true,if_false] at hj;have hl:lo<hi:=by have:=(hr.frozen hro).1;omega
      have:=hfro lo (zai _) hl;omega
    have hfr2:fr.1<=fr.2:=by
     rw [hfr];split
     ·exact Nat.le_succ _
     ·simp only;omega
    have hsame:=iH (cs':=cs') (f':=fr) hr.block rfl
    obtain ⟨h3,h4⟩:=hR.hX (w':=lay w (Γ.φ b).1 (.cells cs' e' fr)) (.cells cs e' 0 ex true) hb hro (by simp) rfl rfl rfl hsame
     (fun x hx=>cg hx) (by
      refine ⟨cs',fr.1,fr.2,b7 hr.block,hr.room,fun i v hv=>?_,hr.lL,fun _=>⟨hfr2,fun j h1 h2=> .inr ⟨rfl,hfr1 j h1⟩⟩,fun _=>hbase⟩;obtain ⟨v',a,b⟩:=hr.cell i v hv;exact ⟨v',a,b.mono (.refl _) hsame⟩)
    refine ⟨_,_,_,ai hrun,hx.mono (.refl _) hsame,h3,h4⟩
   ·cases h
  ·cases h
 ·cases h
end Go.Iv
/- The operations, one by one (the eighth part): bare memory; all that call nothing. -/
namespace Go.Iv
open Go
variable {P:Program} {Γ:Ga} {H:IH} {w:World}
theorem pE {B off:Nat} {sp:Option Nat} {cs:Array Value} {e:TypeId} {f:Nat×Nat} (h:w.heap[B]? =some (.cells cs e f)):(Conv.seenAt ⟨B,off,sp⟩).run P w= .ok ⟨B,off,sp⟩ w:=by
 have hsh:w.shape? B=some (e,cs.size):=by simp only [World.shape?,h]
 simp [Conv.seenAt,viewAt,hsh]
theorem py {t:TypeId} (h:(P.cellsOf t !=0)=true):∃ i,P.info? t=some i/\i.size≠0/\P.cellsOf t=i.size:=by
 unfold Program.cellsOf at h ⊢;cases hi:P.info? t with
 |none=>simp [hi] at h
 |some i=>simp [hi] at h;exact ⟨i,rfl,h,by simp⟩
theorem uV (hR:Rh Γ H w) {src dst t:TypeId} {x x':Value} {res:ag} (hs:P.underlying src=some (.pointer t)) (hd:P.underlying dst=some .unsafePointer) (h:dP P H t x=some res) (hx:VR Γ w x x'):
  Good Γ H w ((bz (convert src dst x')).run P w) res:=by
 have hconv:∀ a,(convert src dst (.pointer a)).run P w=(Conv.unsafePointer src dst (.pointer a)).run P w:=by
  intro a;simp [convert,run_underlying hs,run_underlying hd]
 unfold dP at h;split at h
 ·cases h;rw [hx.AP]
  exact aj hR .yR (ai (by rw [hconv];simp [Conv.unsafePointer,run_underlying hs,run_underlying hd]))
 ·rename_i b off
  split at h
  ·rename_i cs e fz ex sh hb
   split at h
   ·rename_i hc
    cases h;simp only [zae,decide_eq_true_eq] at hc;obtain ⟨i,hi,hi0,_⟩:=py hc.1;obtain ⟨b1,o1,e1,hd',rfl⟩:=hx.oy;cases e1;obtain ⟨cs',lo,hi',hr⟩:=hR.obj b _ hb;refine aj hR (.ptr hd') (ai ?_);rw [hconv];have hsh:w.shape? (Γ.φ b).1=some (e,cs'.size):=by simp only [World.shape?,hr.block]
    have hlt:¬ cs'.size<=(Γ.φ b).2+off:=by have:=hr.room;omega
    have hseen:=pE (P:=P) (off:=(Γ.φ b).2+off) (sp:=none) hr.block;simp [Conv.unsafePointer,run_underlying hs,run_underlying hd,Ga.at,hseen,cellsIn,hsh,hlt,aX hi,hi0]
   ·cases h
  ·cases h
 ·cases h
theorem pA (hR:Rh Γ H w) {src dst u:TypeId} {x x':Value} {res:ag} (hs:P.underlying src=some .unsafePointer) (hd:P.underlying dst=some (.pointer u)) (h:cY P H u x=some res) (hx:VR Γ w x x'):
  Good Γ H w ((bz (convert src dst x')).run P w) res:=by
 have hconv:∀ a,(convert src dst (.pointer a)).run P w=(Conv.unsafePointer src dst (.pointer a)).run P w:=by
  intro a;simp [convert,run_underlying hs,run_underlying hd]
 unfold cY at h;split at h
 ·cases h;rw [hx.AP]
  exact aj hR .yR (ai (by rw [hconv];simp [Conv.unsafePointer,run_underlying hs,run_underlying hd]))
 ·rename_i b off
  split at h
  ·rename_i cs e fz sh hb
   split at h
   ·rename_i hc
    cases h;simp only [zae] at hc;obtain ⟨i,hi,hi0,_⟩:=py hc.1;obtain ⟨b1,o1,e1,hd',rfl⟩:=hx.oy;cases e1;obtain ⟨cs',lo,hi',hr⟩:=hR.obj b _ hb;obtain ⟨hb0,hsz⟩:=hr.lL rfl;refine aj hR (.ptr hd') (ai ?_);rw [hconv];have hsh:w.shape? (Γ.φ b).1=some (e,cs'.size):=by simp only [World.shape?,hr.block]
    have hseen:=pE (P:=P) (off:=off) (sp:=none) hr.block;simp [Conv.unsafePointer,run_underlying hs,run_underlying hd,Ga.at,hb0,hseen,aX hi,hi0,variablesAt,hsh,hsz,hc.2]
   ·cases h
  ·cases h
 ·cases h
theorem run_loadBytes (b:Nat) (cs:List Int):∀ (off:Nat) (acc:ByteArray),(∀ (j:Nat) (n:Int),cs[j]? =some n->w.cell? ⟨b,off+j,none⟩=some (.int .u8 n))->
  (loadBytes ⟨b,off,none⟩ acc cs.length).run P w= .ok (cs.foldl (fun r n=>r.push (UInt8.ofNat n.toNat)) acc) w:=by
 induction cs with
 |nil=>intro off acc _;simp [loadBytes]
 |cons n cs ih=>
  intro off acc h;have h0:=h 0 n rfl;simp only [Nat.add_zero] at h0;have hadd:(⟨b,off,none⟩:Addr).add 1=⟨b,off+1,none⟩:=by simp [Addr.add]
  simp only [zad,loadBytes,Sem.run_bind,run_load,h0,Result.andThen_ok,hadd,List.foldl_cons];exact ih (off+1) _ fun j m hj=>by
   have:=h (j+1) m (by simpa using hj);rw [←this];congr 2;omega
theorem S8 (ats:Array TypeId) (ty t0:TypeId) (h0:ats[0]? =some t0) (n:Int):∃ (x y:Sem Unit) (z:Sem Value),(Builtin.unsafeString_ ats ty #[.pointer none,.int .i64 n])=
  (do
   let n ←asInt (.int .i64 n)
   if n<0 then x
   if n>IntKind.i64.max then y
   if n=0 then pure (.string .empty)
   else z):=by
 have:∃ (x y:Sem Unit) (z u:Sem Value),(Builtin.unsafeString_ ats ty #[.pointer none,.int .i64 n])=(do
   let n ←asInt (.int .i64 n)
   match ats[0]? with
   |some _=>do
    if n<0 then x
    if n>IntKind.i64.max then y
    if n=0 then pure (.string .empty)
    else z
   |_=>u):=⟨_,_,_,_,rfl⟩
 obtain ⟨x,y,z,u,this⟩:=this;exact ⟨x,y,z,by rw [this,h0]⟩
theorem Lq (ats:Array TypeId) (ty t0:TypeId) (h0:ats[0]? =some t0) (a:Addr) (n:Int):∃ (x y:Sem Unit) (z:Sem Value),(Builtin.unsafeString_ ats ty #[.pointer (some a),.int .i64 n])=
  (do
   let n ←asInt (.int .i64 n)
   if n<0 then x
   if n>IntKind.i64.max then y
   if n=0 then pure (.string .empty)
   else if ←variablesAt a (←elemOf t0) n.toNat then do
    let s ←loadBytes a .empty n.toNat
    freeze a n.toNat
    pure (.string s)
   else z):=by
 have:∃ (x y:Sem Unit) (z u:Sem Value),(Builtin.unsafeString_ ats ty #[.pointer (some a),.int .i64 n])=(do
   let n ←asInt (.int .i64 n)
   match ats[0]? with
   |some pt=>do
    if n<0 then x
    if n>IntKind.i64.max then y
    if n=0 then pure (.string .empty)
    else if ←variablesAt a (←elemOf pt) n.toNat then do
     let s ←loadBytes a .empty n.toNat
     freeze a n.toNat
     pure (.string s)
    else z
   |_=>u):=⟨_,_,_,_,rfl⟩
 obtain ⟨x,y,z,u,this⟩:=this;exact ⟨x,y,z,by rw [this,h0]⟩
theorem wO (hR:Rh Γ H w) {ats:Array TypeId} {ty:TypeId} {p p':Value} {n:Int} {res:ag} (h:iz P H ats p n=some res) (hp:VR Γ w p p') (h0:∃ t,ats[0]? =some t):
  Good Γ H w ((bz (Builtin.unsafeString_ ats ty #[p',.int .i64 n])).run P w) res:=by
 obtain ⟨t0,h0⟩:=h0;unfold iz at h;split at h
 ·split at h
  ·rename_i hn
   cases h;rw [hp.AP];refine aj hR (.string _) (ai ?_);obtain ⟨_,_,_,hus⟩:=S8 ats ty t0 h0 _;rw [hus];simp [asInt,asIntOf,hn];rfl
  ·cases h
 ·rename_i b off
  obtain ⟨b1,o1,e1,hd,rfl⟩:=hp.oy;cases e1;split at h
  ·rename_i hn
   cases h;refine aj hR (.string _) (ai ?_);obtain ⟨_,_,_,hus⟩:=Lq ats ty t0 h0 (Γ.at b off) n;rw [hus];simp [asInt,asIntOf,hn];rfl
  ·rename_i hn
   split at h
   ·rename_i cs e fz ex sh pt hb hpt
    rw [h0] at hpt;cases hpt;by_cases hcond:(decide (dO<=b) && !sh &&decide (0<=n) &&decide (n<=(roomy:Int)) &&decide (off+n.toNat<=cs.length) &&P.cellsOf e==1 &&qz P t0 e)=true
    ·rw [if_pos hcond] at h
     split at h
     ·rename_i bs hbs
      cases h;simp only [zae,decide_eq_true_eq,Bool.not_eq_true',beq_iff_eq] at hcond;obtain ⟨⟨⟨⟨⟨⟨hro,hsh⟩,hn0⟩,hnb⟩,hle⟩,hone⟩,hpe⟩:=hcond;have hptr:P.underlying t0=some (.pointer e):=by
       unfold qz at hpe;split at hpe
       ·rename_i e2 hu;rw [hu,beq_iff_eq.1 hpe]
       ·cases hpe
      subst hsh;obtain ⟨cs',lo,hi,hr⟩:=hR.obj b _ hb;have hcell:=hr.room;obtain ⟨ns,hns,rfl⟩:=pK hbs;have hnl:ns.length=n.toNat:=by
       have:=congrArg List.length hns;simp at this;omega
      have hshape:w.shape? (Γ.φ b).1=some (e,cs'.size):=by simp only [World.shape?,hr.block]
      have hca:H.bq b off n.toNat=some (ns.map (Value.int .u8)):=by
       simp only [IH.bq,hb];rw [if_pos hle,hns]
      obtain ⟨cs2,h1,h2,h3⟩:=hR.bq hca;obtain rfl:=h1.dt (Ao ns);have hloads:(loadBytes (Γ.at b off) .empty n.toNat).run P w= .ok (ba (ns.map fun m=>UInt8.ofNat m.toNat)) w:=by
       have:=run_loadBytes (P:=P) (w:=w) (Γ.φ b).1 ns ((Γ.φ b).2+off) .empty (fun j m hj=>by
        have:=h3 j (.int .u8 m) (by simpa using hj);rw [gV] at this;rw [←this];simp [Ga.at,Nat.add_assoc])
       rw [hnl,fold_push,DI] at this;exact this
      have hvar:(variablesAt (Γ.at b off) e n.toNat).run P w= .ok true w:=by
       have hlies:liesAt P P.depth e (cs'.size / P.cellsOf e) ((Γ.φ b).2+off) e n.toNat=true:=by
        have hdep:P.depth=(2*(P.types.size+Made.depth)+1)+1:=rfl;have hfit:(Γ.φ b).2+off+n.toNat<=cs'.size:=by omega
        have hsl:sameLayout P P.depth e e=true:=by rw [hdep];simp [sameLayout]
        have hrow:rowAt P (fun x=>sameLayout P P.depth x e) P.depth e cs'.size ((Γ.φ b).2+off) n.toNat=true:=by
         rw [hdep];simp [rowAt,hone,hfit,←hdep,hsl,Nat.mod_one]
        rw [hone,Nat.div_one,hdep,liesAt,hrow];rfl
       simp [variablesAt,Ga.at,hshape,hlies]
      obtain ⟨fr,hfr⟩:∃ fr,fr=(if lo==hi then ((Γ.φ b).2+off,(Γ.φ b).2+off+n.toNat) else (min lo ((Γ.φ b).2+off),max hi ((Γ.φ b).2+off+n.toNat))):=⟨_,rfl⟩;have hfrz:=oH (w:=w) hr.block (off:=(Γ.φ b).2+off) (sp:=none) (n:=n.toNat) (by omega);rw [←hfr] at hfrz;have hrun:(Builtin.unsafeString_ ats ty #[.pointer (some (Γ.at b off)),.int .i64 n]).run P w= .ok (.string (ba (ns.map fun m=>UInt8.ofNat m.toNat))) (lay w (Γ.φ b).1 (.cells cs' e fr)):=by
       have e1:¬ n<0:=by omega
       have e2:¬ n>9223372036854775807:=by
        have:((roomy:Nat):Int)=1099511627776:=by decide
        omega
       have hel:(elemOf t0).run P w= .ok e w:=by simp [elemOf,run_underlying hptr]
       obtain ⟨_,_,_,hus⟩:=Lq ats ty t0 h0 (Γ.at b off) n;rw [hus];simp [asInt,asIntOf,e1,e2,hn,hel,hvar,hloads];exact hfrz
      have hord:=(hr.frozen hro).1;have hfro:∀ j,lo<=j->j<hi->j<(Γ.φ b).2+fz:=fun j a c=>((hr.frozen hro).2 j a c).resolve_right (by simp)
      have hsame:=iH (cs':=cs') (f':=fr) hr.block rfl;obtain ⟨h4,h5⟩:=hR.hX (w':=lay w (Γ.φ b).1 (.cells cs' e fr)) (.cells cs e (max fz (off+n.toNat)) ex false) hb hro (by simp) rfl rfl rfl hsame (fun x hx=>cg hx) (by
       refine ⟨cs',fr.1,fr.2,b7 hr.block,hr.room,fun i v hv=>?_,hr.lL,fun _=>⟨?_,fun j a c=> .inl ?_⟩,fun x=>(by cases x)⟩
       ·obtain ⟨v',a,c⟩:=hr.cell i v hv;exact ⟨v',a,c.mono (.refl _) hsame⟩
       ·rw [hfr];split<;>(simp only;omega)
       ·rw [hfr] at a c
        by_cases hlh:lo=hi
        ·subst hlh
         simp at a c;omega
        ·have hne:(lo==hi)=false:=by simpa using hlh
         simp only [hne,Bool.false_eq_true,if_false] at a c;have:=hfro (hi - 1) (by omega) (by omega);omega)
      exact ⟨_,_,_,ai hrun,.string _,h4,h5⟩
     ·cases h
    ·rw [if_neg hcond] at h;cases h
   ·cases h
 ·cases h
theorem wN (hR:Rh Γ H w) {src dst:TypeId} {x x':Value} {res:ag} (h:bb P H src dst x=some res) (hx:VR Γ w x x'):Good Γ H w ((bz (convert src dst x')).run P w) res:=by
 unfold bb at h;split at h
 ·rename_i k1 k hs hd
  split at h
  ·cases h;rw [hx.ff]
   exact aj hR (.int _ _) (ai (by simp [convert,run_underlying hs,run_underlying hd,Conv.intToInt]))
  ·cases h
 ·rename_i k1 hs hd
  split at h
  ·cases h;rw [hx.ff]
   exact aj hR (.string _) (ai (by simp [convert,run_underlying hs,run_underlying hd,Conv.intToString]))
  ·cases h
 ·rename_i hs hd
  split at h
  ·cases h;rw [hx.cK]
   exact aj hR (.string _) (ai (by simp [convert,run_underlying hs,run_underlying hd]))
  ·cases h
 ·rename_i e hs hd
  split at h
  ·exact xi hR hs hd h hx
  ·cases h
 ·rename_i e0 e hs hd
  split at h
  ·exact oZ hR hs hd h hx
  ·cases h
 ·rename_i e hs hd
  exact uT hR hs hd h hx
 ·rename_i t hs hd
  exact uV hR hs hd h hx
 ·rename_i u hs hd
  exact pA hR hs hd h hx
 ·cases h
end Go.Iv
/- The operations, one by one (the ninth part): the builtins, deferring, and all that call nothing. -/
namespace Go.Iv
open Go
variable {P:Program} {Γ:Ga} {H:IH} {w:World}
theorem cB.Ob {x:Value} {args':Array Value} (h:cB Γ w [x] args'.toList):∃ x',args'=#[x']/\VR Γ w x x':=by
 obtain ⟨l⟩:=args';cases h with
 |cons hx t=>cases t;exact ⟨_,rfl,hx⟩
theorem cB.Qd {x y:Value} {args':Array Value} (h:cB Γ w [x,y] args'.toList):∃ x' y',args'=#[x',y']/\VR Γ w x x'/\VR Γ w y y':=by
 obtain ⟨l⟩:=args';cases h with
 |cons hx t=>cases t with
  |cons hy t=>cases t;exact ⟨_,_,rfl,hx,hy⟩
theorem Fu (ats:Array TypeId) (ty:TypeId) (a:Addr) (l c:Nat):Builtin.unsafeSliceData_ ats ty #[.slice (some a) l c]=
  (if c≠0 then pure (.pointer (some a)) else (do if (←viewAt a.block).isSome then pure (.pointer (some a)) else pure (.pointer (some ⟨←newObj (.view a (←elemOf ty)),0,none⟩)))):=rfl
theorem vD (hR:Rh Γ H w) {b:Builtin} {ats:Array TypeId} {ty:TypeId} {consts:Array Bool} {args:List Value} {args':Array Value} {res:ag}
  (h:bk P H b ats ty args=some res) (ha:cB Γ w args args'.toList):Good Γ H w ((builtin b ats ty consts args').run P w) res:=by
 unfold bk at h;split at h
 ·obtain ⟨s',x',rfl,h1,h2⟩:=ha.Qd
  exact yN hR h h1 h2
 ·obtain ⟨x',rfl,h1⟩:=ha.Ob
  split at h
  ·rename_i t h0
   unfold valOf at h;split at h
   ·rename_i v hv
    cases h;obtain ⟨h2,h3⟩:=IM (ty:=ty) hR h0 hv h1;exact aj hR (.cu h3) (ai h2)
   ·cases h
  ·cases h
 ·rename_i base l c
  obtain ⟨x',rfl,h1⟩:=ha.Ob;split at h
  ·rename_i t h0
   split at h
   ·rename_i e hu
    split at h
    ·cases h
    ·rename_i hc
     cases h;have:∃ a' l',x'= .slice a' l' c:=by
      cases base with
      |none=>obtain ⟨rfl,rfl,rfl⟩:=h1.jm;exact ⟨_,_,rfl⟩
      |some a=>
       obtain ⟨b,o,rfl,hd,h2 |h2⟩:=h1.ej
       ·obtain ⟨_,_,a',rfl,_⟩:=h2;exact ⟨_,_,rfl⟩
       ·obtain ⟨s,c',a',hs,_⟩:=h2;omega
     obtain ⟨a',l',rfl⟩:=this;exact aj hR (.int _ _) (ai (by simp [Builtin.cap_,h0,run_underlying hu,goInt]))
   ·cases h
  ·cases h
 ·obtain ⟨d',x',rfl,h1,h2⟩:=ha.Qd
  exact Ek hR h h1 h2
 ·split at h
  ·rename_i hf
   obtain ⟨l⟩:=args';obtain rfl:=ha.dt hf;exact lf hR h
  ·cases h
 ·split at h
  ·rename_i hf
   obtain ⟨l⟩:=args';obtain rfl:=ha.dt hf;exact lf hR h
  ·cases h
 ·obtain ⟨x',rfl,h1⟩:=ha.Ob
  cases h;obtain ⟨rfl,rfl,rfl⟩:=h1.jm;exact aj hR .yR (ai rfl)
 ·obtain ⟨x',rfl,h1⟩:=ha.Ob
  split at h
  ·cases h
  ·rename_i hl
   cases h;obtain ⟨b,o,rfl,hd,h2 |h2⟩:=h1.ej
   ·obtain ⟨_,hlc,a',rfl,h3⟩:=h2
    have hc0:¬ _=0:=fun e=>hl (Nat.le_zero.1 (e▸hlc))
    obtain rfl:=h3.resolve_left fun h=>hc0 h.1
    exact aj hR (.ptr hd) (ai (by rw [Fu,if_pos hc0];rfl))
   ·obtain ⟨s,c',a',rfl,rfl,hlc,h3⟩:=h2
    have hc0:¬ c'=0:=by omega
    obtain ⟨rfl,_⟩:=h3.resolve_left fun h=>hc0 h.1
    exact aj hR (.ptr hd) (ai (by rw [Fu,if_pos hc0];rfl))
 ·obtain ⟨p',x',rfl,h1,h2⟩:=ha.Qd
  obtain rfl:=h2.ff;split at h
  ·rename_i h0
   exact wO hR h h1 (Option.isSome_iff_exists.1 h0)
  ·cases h
 ·cases h
theorem B8 (_hR:Rh Γ H w) {f f':Value} {args:List Value} {args':Array Value} {res:ag} (h:kJ H f args=some res) (hf:VR Γ w f f') (ha:cB Γ w args args'.toList):
  Good Γ H w ((do pure (.defer (←Deferred.ofValue f' args')):Sem Next).run P w) res:=by
 unfold kJ at h;split at h
 ·rename_i fn first captured
  split at h
  ·rename_i hp
   cases h;obtain ⟨a',c',rfl,h1,h2⟩:=hf.KD hp;refine ⟨rfl,fn,_,c',_,a'++args',hp,rfl,by simp [Deferred.ofValue],h2,?_⟩;simpa using h1.append ha
  ·cases h
 ·cases h
theorem Ck (hR:Rh Γ H w) {x x':Value} {res:ag} (h:qh H x=some res) (hx:VR Γ w x x'):Good Γ H w ((bz (Instr.panic x')).run P w) res:=by
 unfold qh at h;split at h
 ·cases h
  obtain ⟨y,rfl,hy⟩:=hx.CD;exact ⟨_,w,Γ,by simp [Instr.panic],.iface _ hy,hR,.refl Γ H w⟩
 ·cases h
def eu (o:Oper):Bool:=
 match o.op with
 | .call c=>match c.callee with
  | .builtin _=>true
  |_=>false
 |_=>true
theorem mT (hR:Rh Γ H w) {Z:Operand->Value} {a:Act} (hv:∀ x,VR Γ w (Z x) (a.eval x)) {self:Self} {o:Oper} (hp:eu o=true) {res:ag} (h:aO P self Z H o=some res):
  Good Γ H w ((execOp a.eval o).run P w) res:=by
 unfold aO at h;split at h
 ·rename_i ho;cases h;exact aj hR (hv _) (by simp [execOp,ho])
 ·rename_i ho;cases h;exact aj hR (hv _) (by simp [execOp,ho])
 ·rename_i ho;simp only [execOp,ho];exact Hg hR h (hv _) (hv _) (hv _)
 ·rename_i ho;simp only [execOp,ho];exact BO hR h
 ·rename_i ho;simp only [execOp,ho];exact HS hR h (hv _)
 ·rename_i ho;simp only [execOp,ho];exact CW hR h (by simpa using SK.eT hv _)
 ·rename_i ho;simp only [execOp,ho];exact pI hR h (by simpa using SK.eT hv _)
 ·rename_i ho;simp only [execOp,ho];exact Fg hR h (hv _)
 ·rename_i ho;simp only [execOp,ho];exact CI hR h (hv _) (hv _)
 ·rename_i ho;exact um hR ho h (hv _)
 ·rename_i ho;simp only [execOp,ho];exact Jb hR h (hv _) (hv _)
 ·rename_i ho;simp only [execOp,ho];exact NV hR h (hv _)
 ·rename_i ho;simp only [execOp,ho];exact wN hR h (hv _)
 ·rename_i ho;simp only [execOp,ho];exact sv hR h (hv _)
 ·rename_i fn first captured ho
  split at h
  ·rename_i hf
   cases h;refine aj hR (v':= .func fn (first.map a.eval) (captured.map a.eval)) (.func hf ?_ ?_) (by simp [execOp,ho,Instr.makeFunc])
   ·simpa using cB.eT hv first.toList
   ·simpa using cB.eT hv captured.toList
  ·cases h
 ·rename_i r ho;simp only [execOp,ho]
  refine vv hR h (fun v hv'=>?_) (fun hn=>?_)
  ·cases r with
   |none=>cases hv'
   |some r=>cases hv';exact ⟨_,rfl,hv _⟩
  ·cases r with
   |none=>rfl
   |some r=>cases hn
 ·rename_i ho;simp only [execOp,ho];exact sb hR h (hv _) (hv _)
 ·rename_i ho;simp only [execOp,ho];exact B6 hR h (hv _) (eh.eT hv _) (eh.eT hv _) (eh.eT hv _)
 ·rename_i ho;simp only [execOp,ho];exact rF hR h (hv _)
 ·rename_i ho;simp only [execOp,ho];exact BW hR h (hv _)
 ·rename_i ho;simp only [execOp,ho];exact sI hR h (hv _) (hv _)
 ·rename_i ho;simp only [execOp,ho];exact B2 hR h (hv _) (hv _)
 ·rename_i ho;simp only [execOp,ho];exact zx hR h (hv _) (hv _)
 ·rename_i ho;simp only [execOp,ho];exact nP hR h (hv _) (hv _) (hv _)
 ·rename_i ho;simp only [execOp,ho];exact nP hR h (hv _) (hv _) (hv _)
 ·rename_i ho;simp only [execOp,ho];exact C7 hR h (hv _)
 ·rename_i ho;simp only [execOp,ho];exact D7 hR h (hv _)
 ·rename_i ho;simp only [execOp,ho];exact pG hR h (hv _)
 ·rename_i ho;simp only [execOp,ho];exact yc hR h (hv _)
 ·rename_i c ho
  unfold da at h;simp only at h;split at h
  ·rename_i b hc
   simp only [execOp,ho,resolve,hc,invoke,Sem.run_bind,Sem.run_pure,Result.andThen_ok];exact vD hR h (by simpa using cB.eT hv c.args.toList)
  ·rename_i hc;simp [eu,ho,hc] at hp
  ·rename_i hc;simp [eu,ho,hc] at hp
 ·rename_i c ho
  split at h
  ·rename_i f hc
   have:=B8 (P:=P) hR h (hv f) (args':=c.args.map a.eval) (by simpa using cB.eT hv c.args.toList);simp only [execOp,ho];simpa [resolve,hc] using this
  ·cases h
 ·rename_i ho;simp only [execOp,ho];exact Ck hR h (hv _)
 ·cases h
end Go.Iv
