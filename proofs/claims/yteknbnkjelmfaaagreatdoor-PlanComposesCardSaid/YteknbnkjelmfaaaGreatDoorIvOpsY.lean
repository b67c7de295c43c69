/- The operations, one by one (the fifth part): append. -/
import Derived.Test.YteknbnkjelmfaaaGreatDoorIvOpsX
import Derived.Laws.BytesString
set_option linter.unusedSimpArgs false
set_option linter.unusedVariables false
namespace Go.Iv
open Go
variable {P:Program} {Γ:Ga} {H:IH} {w:World}
theorem EO {w w1:World} (h:w1.heap=w.heap) (a:Addr):w1.cell? a=w.cell? a:=by simp [World.cell?,h]
theorem oF (hR:Rh Γ H w) {b off n:Nat} {cs:List Value} (hc:H.bf b off n=some cs):
  ∃ cs':List Value,bX Γ w cs cs'/\cs'.length=n/\∀ w1:World,w1.heap=w.heap->(loadCells (Γ.at b off) n).run P w1= .ok ⟨cs'⟩ w1:=by
 obtain ⟨cs',h1,h2,h3⟩:=hR.bf hc;refine ⟨cs',h1,h2,fun w1 hw=>?_⟩;have:=run_loadCells_list (P:=P) (w:=w1) (Γ.at b off) cs' (fun j v hj=>by rw [EO hw];exact h3 j v hj)
 grind
theorem Hy (hR:Rh Γ H w) {size n k:Nat} {x x':Value} {new:List Value} (h:bD H size n x=some new) (hc:fj x=some k) (hn:0<n) (hnk:n<=k) (hx:VR Γ w x x'):
  ∃ new':List Value,bX Γ w new new'/\(∀ w1:World,w1.heap=w.heap->(Builtin.firstCells size n x').run P w1= .ok ⟨new'⟩ w1)/\(∀ w1:World,(Builtin.lenOf x').run P w1= .ok k w1):=by
 unfold bD at h;split at h
 .simp [fj] at hc;omega
 .rename_i b off len cap
  simp only [fj,Option.some.injEq] at hc;subst hc;rw [if_neg (by omega)] at h;obtain ⟨cs',h1,h2,h3⟩:=oF (P:=P) hR h;obtain ⟨b1,o1,e1,hd,hs⟩:=hx.fk;cases e1;rcases hs with ⟨hcap,hl,a',rfl,ha⟩ |⟨s,c',a',hcap,rfl,hl,hr⟩
  .obtain rfl:=ha.resolve_left (fun x=>by omega)
   exact ⟨cs',h1,fun w1 hw=>by simp only [Builtin.firstCells];exact h3 w1 hw,fun w1=>rfl⟩
  .rcases hr with ⟨h0,h0',_⟩ |⟨rfl,_⟩
   .omega
   .exact ⟨cs',h1,fun w1 hw=>by simp only [Builtin.firstCells];exact h3 w1 hw,fun w1=>rfl⟩
 .rename_i s
  simp only [fj,Option.some.injEq] at hc;subst hc;cases h;rw [hx.cQ];refine ⟨((bl s).take n).map fun c=> .int .u8 c.toNat,?_,fun w1 hw=>?_,fun w1=>rfl⟩
  .generalize (bl s).take n=l
   induction l with
   |nil=>exact .nil
   |cons c l ih=>exact .cons (.int _ _) ih
  .simp only [Builtin.firstCells,Sem.run_pure,vE]
   congr 1
   apply Array.toList_inj.1;simp [ba]
 .cases h
theorem kb {xt:TypeId} (h:isInt P xt=false):∃ d,P.underlying xt=some d/\∀ k,d≠ .int k:=by
 unfold isInt at h;split at h
 .cases h
 .cases h
 .rename_i h1 h2
  cases hu:P.underlying xt with
  |none=>grind
  |some d=>simp_all
set_option maxHeartbeats 2000000 in
theorem nQ {t xt ty e:TypeId} {i:TypeInfo} {ats:Array TypeId} (h0:ats[0]? =some t) (h1:ats[1]? =some xt) (hx:isInt P xt=false) (hu:P.underlying t=some (.slice e)) (hi:P.info? e=some i)
  {a:Addr} {sLen sCap n:Nat} {x':Value} {news:Array Value} (hlen:(Builtin.lenOf x').run P w= .ok n w) (hfit:sLen+n<=sCap) (hnew:(Builtin.firstCells i.size n x').run P w= .ok news w) {w':World}
  (hst:(storeCells (a.add (sLen*i.size)) news.toList).run P w= .ok () w'):
  (Builtin.append_ ats ty #[.slice (some a) sLen sCap,x']).run P w= .ok (.slice (some a) (sLen+n) sCap) w':=by
 obtain ⟨d,hd,hnd⟩:=kb hx
 cases d<;>first
  |exact absurd rfl (hnd _)
  |simp [Builtin.append_,h0,h1,run_underlying hu,run_underlying hd,aR hi,hlen,hfit,hnew,hst]
set_option maxHeartbeats 2000000 in
theorem lV {t xt ty e:TypeId} {i:TypeInfo} {z:Value} {ats:Array TypeId} (h0:ats[0]? =some t) (h1:ats[1]? =some xt) (hx:isInt P xt=false) (hu:P.underlying t=some (.slice e)) (hi:P.info? e=some i)
  (hzv:zeroOf P e=some z) {base:Option Addr} {sLen sCap n:Nat} {x':Value} {news olds:Array Value} (hlen:(Builtin.lenOf x').run P w= .ok n w) (hg:sCap<sLen+n) (hroom:(sLen+n)*(i.bytes+1)<=roomy)
  (hold:(Builtin.firstCells i.size sLen (.slice base sLen sCap)).run P w.drew= .ok olds w.drew) (hnew:(Builtin.firstCells i.size n x').run P w.drew= .ok news w.drew):
  (Builtin.append_ ats ty #[.slice base sLen sCap,x']).run P w= .ok (.slice (some ⟨w.heap.size,0,none⟩) (sLen+n) (grownCap w (sLen+n) sCap e))
   (w.drew.alloc (.cells (olds++news++Builtin.zeroCells z.cells (grownCap w (sLen+n) sCap e - (sLen+n))) e)):=by
 obtain ⟨d,hd,hnd⟩:=kb hx;have hr:(sLen+n)*i.bytes+(sLen+n)<=1099511627776:=by rw [←Nat.mul_succ];exact hroom
 have h63:¬ (9223372036854775807<((sLen:Int)+(n:Int))):=by omega
 have hcap:=nextslicecap_le hg;have h48:¬ (281474976710656<Builtin.nextslicecap (sLen+n) sCap*i.bytes):=by
  have:=Nat.mul_le_mul_right i.bytes hcap;rw [Nat.mul_assoc] at this;omega
 have hn:¬ (sLen+n<=sCap):=by omega
 cases d<;>first
  |exact absurd rfl (hnd _)
  |simp [Builtin.append_,h0,h1,run_underlying hu,run_underlying hd,aR hi,hlen,hn,h63,h48,jx hi,Question.forced,hold,hnew,cK hzv,newRow,grownCap]
theorem ug (hR:Rh Γ H w) (o:bN) (o':Obj) (ho:gd (Γ.next H.n (w.heap.size,0)) (w.drew.alloc o') H.n o):
  Rh (Γ.next H.n (w.heap.size,0)) (H.new o) (w.drew.alloc o')/\Ext Γ H w (Γ.next H.n (w.heap.size,0)) (H.new o) (w.drew.alloc o'):=by
 obtain ⟨h1,h2⟩:=hR.drew;obtain ⟨h3,h4⟩:=h1.new o o' ho;exact ⟨h3,h2.trans h4⟩
theorem nT (hR:Rh Γ H w) (fz0:Nat) {e:TypeId} {i:TypeInfo} {z:Value} (hz:z.cells.size=i.size) {sLen sCap n:Nat} {old new old' new':List Value} (ho:bX Γ w old old') (hn:bX Γ w new new')
  (hlo:old.length=sLen*i.size) (hln:new.length=n*i.size) {s:Sem Value}
  (hs:s.run P w= .ok (.slice (some ⟨w.heap.size,0,none⟩) (sLen+n) (grownCap w (sLen+n) sCap e)) (w.drew.alloc (.cells (⟨old'⟩++⟨new'⟩++Builtin.zeroCells z.cells (grownCap w (sLen+n) sCap e - (sLen+n))) e))):
  Good Γ H w ((bg s).run P w) (.val (.slice (some ⟨H.n,0,none⟩) (sLen+n) (ff+i.size)) (H.new (.cells (old++new) e fz0 false false))):=by
 have hge:=grownCap_ge w (sLen+n) sCap e;have hn0:¬ Γ.aT H.n:=fun x=>by have:=hR.aT _ x;omega
 have hsame:eD w (w.drew.alloc (.cells (⟨old'⟩++⟨new'⟩++Builtin.zeroCells z.cells (grownCap w (sLen+n) sCap e - (sLen+n))) e)):=(hR.drew.2.same).trans (.alloc _ _);have hsize:(⟨old'⟩++⟨new'⟩++Builtin.zeroCells z.cells (grownCap w (sLen+n) sCap e - (sLen+n)):Array Value).size=grownCap w (sLen+n) sCap e*i.size:=by
  have h1:=ho.length;have h2:=hn.length;simp only [Array.size_append,List.size_toArray,size_zeroCells,hz,←h1,←h2,hlo,hln,←zaj]
  congr 1
  omega
 have hon:=ho.append hn;obtain ⟨h3,h4⟩:=ug hR (.cells (old++new) e fz0 false false) (.cells (⟨old'⟩++⟨new'⟩++Builtin.zeroCells z.cells (grownCap w (sLen+n) sCap e - (sLen+n))) e) (by
  refine ⟨_,0,0,by rw [Ga.bh];exact heap_alloc_new (w:=w.drew),?_,?_,?_,?_,fun x=>(by cases x)⟩
  .rw [Ga.bh,hsize]
   have:(sLen+n)*i.size<=grownCap w (sLen+n) sCap e*i.size:=Nat.mul_le_mul_right _ hge;rw [zaj] at this;simp only [zaf];omega
  .intro j v hj
   obtain ⟨v',a,b⟩:=hon.get hj;refine ⟨v',?_,b.mono (Ga.le_next hn0) hsame⟩;rw [Ga.bh];have hlt:j<(old'++new').length:=by
    rcases Nat.lt_or_ge j (old'++new').length with x |x
    .exact x
    .rw [List.getElem?_eq_none x] at a;cases a
   have e1:(⟨old'⟩++⟨new'⟩++Builtin.zeroCells z.cells (grownCap w (sLen+n) sCap e - (sLen+n)):Array Value)[0+j]? =(old'++new'++(Builtin.zeroCells z.cells (grownCap w (sLen+n) sCap e - (sLen+n))).toList)[j]? :=by
    rw [←Array.getElem?_toList];simp
   rw [e1,List.getElem?_append_left hlt,a]
  .intro x;cases x
  grind)
 refine ⟨_,_,_,ah hs,?_,h3,h4⟩;refine .dK (.inr rfl) hge (.inr ⟨by simp [Ga.at,Ga.bh],⟨_,e,(0,0),heap_alloc_new (w:=w.drew),?_⟩⟩);rw [hsize];simp
theorem Au (hR:Rh Γ H w) {b off len c' n size:Nat} {cs:List Value} {e:TypeId} {fz:Nat} {ex sh:Bool} (hb:H.get b=some (.cells cs e fz ex sh)) (hro:ep<=b) (hle:off+len*size<=cs.length) (hsh:sh=false) (hfz:fz<=off+len*size)
  {new new':List Value} (hnew:bX Γ w new new') (hln:new.length=n*size) (hone:new.all one=true) (hfit:len+n<=c') (hroom:Room w (Γ.at b off) (c'*size)) (_hlc:len<=c') (_hd:Γ.aT b) {s:Sem Value}
  (hs:∀ w1,(storeCells (Γ.at b (off+len*size)) new').run P w= .ok () w1->s.run P w= .ok (.slice (some (Γ.at b off)) (len+n) c') w1):
  Good Γ H w ((bg s).run P w) (.val (.slice (some ⟨H.n,0,none⟩) (len+n) (ff+size)) ((H.del b).new (.cells (((cs.drop off).take (len*size))++new) e (fz - off) false false))):=by
 subst hsh;obtain ⟨cs',lo,hi,hr⟩:=hR.obj b _ hb;obtain ⟨cs2,e2,f2,hb2,hsz2⟩:=hroom;have hb2':w.heap[(Γ.φ b).1]? =some (.cells cs2 e2 f2):=hb2;rw [hr.block] at hb2';cases hb2';have hroom2:(Γ.φ b).2+off+c'*size<=cs'.size:=by simpa [Ga.at] using hsz2
 have hmul:(len+n)*size<=c'*size:=Nat.mul_le_mul_right _ hfit;rw [zaj] at hmul;have hlen:=hnew.length;have hn0:¬ Γ.aT H.n:=fun x=>by have:=hR.aT _ x;omega
 have hfr:∀ j,lo<=j->j<hi->j<(Γ.φ b).2+fz:=fun j h1 h2=>((hr.frozen hro).2 j h1 h2).resolve_right (by simp)
 have hone':∀ v'∈new',v'.oneCell'=true:=by
  intro v' hv';obtain ⟨k,hk,rfl⟩:=List.mem_iff_getElem.1 hv';have hk':k<new.length:=by omega
  obtain ⟨x,h1,h2⟩:=hnew.get (zam hk');rw [zam hk] at h1;cases h1;exact h2.one (List.all_eq_true.1 hone _ (List.getElem_mem _))
 have hrun:=l6 (P:=P) (Γ.φ b).1 ((Γ.φ b).2+(off+len*size)) new' 0 w cs' e lo hi hr.block (by omega) (fun j h1 h2 ⟨h3,h4⟩=>by grind) hone';have hsame:∀ w1,(w1=w\/w1=lay w (Γ.φ b).1 (.cells ⟨aA cs'.toList ((Γ.φ b).2+(off+len*size)+0) new'⟩ e (lo,hi)))->eD w w1:=by
  rintro w1 (rfl |rfl)
  .exact .refl _
  .exact iL hr.block (by simp [aM])
 have hw1:∃ w1,(storeCells (Γ.at b (off+len*size)) new').run P w= .ok () w1/\(w1=w\/w1=lay w (Γ.φ b).1 (.cells ⟨aA cs'.toList ((Γ.φ b).2+(off+len*size)+0) new'⟩ e (lo,hi)))/\
   w1.heap[(Γ.φ b).1]? =some (.cells ⟨aA cs'.toList ((Γ.φ b).2+(off+len*size)) new'⟩ e (lo,hi)):=by
  by_cases hne:new'= []
  .rw [if_pos hne] at hrun
   exact ⟨w,hrun,.inl rfl,by subst hne;simpa [aA] using hr.block⟩
  .rw [if_neg hne] at hrun
   exact ⟨_,hrun,.inr rfl,by simpa using bC hr.block⟩
 obtain ⟨w1,hst,hwor,hblk⟩:=hw1;have hs1:=hsame w1 hwor;have hother:∀ x,x≠(Γ.φ b).1->w1.heap[x]? =w.heap[x]? :=by
  rcases hwor with rfl |rfl
  .grind
  .exact fun x hx=>bE hx
 have hsz1:w1.heap.size=w.heap.size:=by rcases hwor with rfl |rfl<;>simp
 have hos:w1.os=w.os/\w1.tape=w.tape/\w1.output=w.output:=by rcases hwor with rfl |rfl<;>exact ⟨rfl,rfl,rfl⟩
 have hdel:=hR.del b;have hlive:∀ x y,(H.del b).get x=some y->H.get x=some y/\x≠b:=by
  intro x y hx;rw [IH.cf] at hx;by_cases e1:x=b
  .grind
  .grind
 have hp:∀ x y,(H.del b).get x=some y->(Γ.φ x).1≠(Γ.φ b).1:=fun x y hx e1=>(hlive x y hx).2 (hR.inj b x _ y hro hb (hlive x y hx).1 e1.symm).symm
 have hobj:gd (Γ.next (H.del b).n ((Γ.φ b).1,(Γ.φ b).2+off)) w1 (H.del b).n (.cells (((cs.drop off).take (len*size))++new) e (fz - off) false false):=by
  refine ⟨⟨aA cs'.toList ((Γ.φ b).2+(off+len*size)) new'⟩,lo,hi,by simp_all,?_,?_,fun x=>(by cases x),?_,fun x=>(by cases x)⟩
  .rw [Ga.bh]
   simp [aM];omega
  .intro j v hj
   rw [Ga.bh];have hmono:=Ga.le_next (p:=((Γ.φ b).1,(Γ.φ b).2+off)) hn0;have hget:∀ q:Nat,(⟨aA cs'.toList ((Γ.φ b).2+(off+len*size)) new'⟩:Array Value)[q]? =(aA cs'.toList ((Γ.φ b).2+(off+len*size)) new')[q]? :=fun q=>by grind
   rw [hget,eW];by_cases hjl:j<len*size
   .rw [List.getElem?_append_left (by simp;omega),List.getElem?_take_of_lt hjl,List.getElem?_drop] at hj
    obtain ⟨v',h1,h2⟩:=hr.cell _ _ hj;refine ⟨v',?_,h2.mono hmono hs1⟩
    grind
   .rw [List.getElem?_append_right (by simp;omega)] at hj
    have hl2:(List.take (len*size) (List.drop off cs)).length=len*size:=by simp;omega
    rw [hl2] at hj;obtain ⟨v',h1,h2⟩:=hnew.get hj;have hlt:j - len*size<new'.length:=by
     rcases Nat.lt_or_ge (j - len*size) new'.length with x |x
     .exact x
     .rw [List.getElem?_eq_none x] at h1;cases h1
    refine ⟨v',?_,h2.mono hmono hs1⟩
    grind
  .intro _
   refine ⟨(hr.frozen hro).1,fun j h1 h2=>?_⟩;rw [Ga.bh]
   grind
 obtain ⟨h3,h4,h5⟩:=hdel.1.take (w':=w1) (.cells (((cs.drop off).take (len*size))++new) e (fz - off) false false) ((Γ.φ b).1,(Γ.φ b).2+off) hp hs1 hother hobj;refine ⟨_,w1,_,ah (hs w1 hst),?_,h3,?_⟩
 .have hat:(Γ.next (H.del b).n ((Γ.φ b).1,(Γ.φ b).2+off)).at H.n 0=Γ.at b off:=by
   have:(Γ.next (H.del b).n ((Γ.φ b).1,(Γ.φ b).2+off)).φ H.n=((Γ.φ b).1,(Γ.φ b).2+off):=Ga.bh _ _ _;simp [Ga.at]
  refine .dK (.inr rfl) hfit (.inr ⟨hat.symm,?_⟩);exact ⟨_,e,(lo,hi),hblk,by simp [aM,Ga.at];omega⟩
 .refine ⟨by simp,fun i hi'=>h4 i (by simpa using hi'),?_,Nat.le_of_eq hsz1.symm,hos.1,hos.2.1,hos.2.2,hs1,?_,?_,fun i hi' y hy=>⟨y,by
   rw [IH.ay,if_neg (by have:=hR.ro;simp;omega)] at hy
   grind⟩⟩
  .intro i
   simp only [Ga.next,IH.LX,IH.Tg]
   grind
  .intro x _ hx
   exact hother x fun e1=>hx ⟨b,_,hro,hb,e1.symm⟩
  .rintro x _ ⟨i,y,hi',hy,e1⟩
   rw [IH.ay] at hy;by_cases e2:i=(H.del b).n
   .subst e2
    rw [Ga.bh] at e1;exact ⟨b,_,hro,hb,e1⟩
   .rw [if_neg e2] at hy
    obtain ⟨hy',_⟩:=hlive i y hy;refine ⟨i,y,hi',hy',?_⟩
    grind
theorem sQ (hR:Rh Γ H w) {t xt ty e:TypeId} {i:TypeInfo} {z:Value} {ats:Array TypeId} (h0:ats[0]? =some t) (h1:ats[1]? =some xt) (hxt:isInt P xt=false) (hu:P.underlying t=some (.slice e)) (hi:P.info? e=some i)
  (hzv:zeroOf P e=some z) (hzs:z.cells.size=i.size) {n:Nat} {s x s' x':Value} {new:List Value} {res:az} (hsl:bD H i.size n x=some new) (hct:fj x=some n) (hn:0<n) (hsz:0<i.size)
  (hln:new.length=n*i.size) (hone:new.all one=true) (h:cJ H e i.size i.bytes n new s=some res) (hs:VR Γ w s s') (hx:VR Γ w x x'):
  Good Γ H w ((bg (Builtin.append_ ats ty #[s',x'])).run P w) res:=by
 obtain ⟨new',hnew,hfirst,hlen⟩:=Hy (P:=P) hR hsl hct hn (zal _) hx;unfold cJ at h;split at h
 .split at h
  .rename_i hroom
   cases h;obtain ⟨_,_,rfl⟩:=hs.lR;have hrun:=lV (ty:=ty) (base:=none) (sLen:=0) (sCap:=0) (n:=n) (olds:=#[]) (w:=w) h0 h1 hxt hu hi hzv (hlen w) (by omega) (by simpa using hroom) rfl (hfirst w.drew rfl);have:=nT (s:=Builtin.append_ ats ty #[.slice none 0 0,x']) (sLen:=0) (sCap:=0) (old:= []) (old':= []) hR 0 hzs .nil hnew (by simp) hln hrun;simpa using this
  .cases h
 .rename_i b off len cap
  obtain ⟨b1,o1,e1,hd,hsr⟩:=hs.fk;cases e1;split at h
  .rename_i hroom
   split at h
   .rename_i hcap
    split at h
    .rename_i cs e' fz ex sh hb
     split at h
     .rename_i hcond
      cases h;simp only [zae,decide_eq_true_eq,beq_iff_eq,Bool.not_eq_true'] at hcond;obtain ⟨⟨⟨⟨⟨hro,hle⟩,rfl⟩,hsh⟩,hfz⟩,hce⟩:=hcond;rcases hsr with ⟨hc,_⟩ |⟨s1,c',a',hce',rfl,hlc,hr⟩
      .omega
      .obtain rfl:s1=i.size:=by omega
       subst hce';have hca:H.bf b off (len*i.size)=some ((cs.drop off).take (len*i.size)):=by
        simp only [IH.bf,hb];rw [if_pos hle]
       by_cases hg:c'<len+n
       .-- a new array is made
        have hdel:=hR.del b;have hold:∃ old':List Value,bX Γ w ((cs.drop off).take (len*i.size)) old'/\(Builtin.firstCells i.size len (.slice (some a') len c')).run P w.drew= .ok ⟨old'⟩ w.drew:=by
         by_cases hl0:len=0
         .subst hl0
          refine ⟨[],by simp;exact .nil,?_⟩;simp [Builtin.firstCells,loadCells,loadCellsFrom]
         .rcases hr with ⟨hc0,hl0',_⟩ |⟨rfl,_⟩
          .omega
          .obtain ⟨old',h3,_,h4⟩:=oF (P:=P) hR hca
           exact ⟨old',h3,by simp only [Builtin.firstCells];exact h4 w.drew rfl⟩
        obtain ⟨old',h3,h4⟩:=hold;have hrun:=lV (ty:=ty) h0 h1 hxt hu hi hzv (hlen w) hg hroom h4 (hfirst w.drew rfl);have h5:=nT (s:=Builtin.append_ ats ty #[.slice (some a') len c',x']) hdel.1 (fz - off) hzs h3 hnew (by simp;omega) hln hrun;obtain ⟨v',w',Γ',e5,h6,h7,h8⟩:=h5;exact ⟨v',w',Γ',e5,h6,h7,hdel.2.trans h8⟩
       .-- it lies behind what was there
        rcases hr with ⟨hc0,hl0',_⟩ |⟨rfl,hroom'⟩
        .omega
        .exact Au hR hb hro hle hsh hfz hnew hln hone (by omega) hroom' hlc hd (fun w1 hst=>nQ (ty:=ty) h0 h1 hxt hu hi (hlen w) (by omega) (hfirst w rfl) (w':=w1) (by rw [gJ];exact hst))
     .cases h
    .cases h
   .split at h
    .rename_i hcap hfit
     split at h
     .rename_i H' hst
      cases h;rcases hsr with ⟨hc,hlc,a',rfl,ha⟩ |⟨s1,c',a',hce',rfl,hlc,hr⟩
      .obtain rfl:=ha.resolve_left (fun x=>by omega)
       obtain ⟨w',h3,h4,h5⟩:=sw (P:=P) hR hst hnew;refine ⟨_,w',Γ,ah (nQ (ty:=ty) h0 h1 hxt hu hi (hlen w) hfit (hfirst w rfl) (w':=w') (by rw [gJ];exact h3)),?_,h4,h5⟩;exact .slice hd (by omega) hfit (.inr rfl)
      .omega
     .cases h
    .rename_i hcap hfit
     split at h
     .rename_i old hold
      cases h;rcases hsr with ⟨hc,hlc,a',rfl,ha⟩ |⟨s1,c',a',hce',rfl,hlc,hr⟩
      .have holdr:∃ old':List Value,bX Γ w old old'/\(Builtin.firstCells i.size len (.slice (some a') len cap)).run P w.drew= .ok ⟨old'⟩ w.drew/\old.length=len*i.size:=by
        by_cases hl0:len=0
        .subst hl0
         rw [if_pos rfl] at hold;cases hold;exact ⟨[],.nil,by simp [Builtin.firstCells,loadCells,loadCellsFrom],by simp⟩
        .rw [if_neg hl0] at hold
         obtain rfl:=ha.resolve_left (fun x=>by omega);obtain ⟨old',h3,h4',h4⟩:=oF (P:=P) hR hold;exact ⟨old',h3,by simp only [Builtin.firstCells];exact h4 w.drew rfl,h3.length.trans h4'⟩
       obtain ⟨old',h3,h4,h5⟩:=holdr;have hrun:=lV (ty:=ty) h0 h1 hxt hu hi hzv (hlen w) (by omega) hroom h4 (hfirst w.drew rfl);exact nT (s:=Builtin.append_ ats ty #[.slice (some a') len cap,x']) hR 0 hzs h3 hnew h5 hln hrun
      .omega
     .cases h
  .cases h
 .cases h
end Go.Iv
/- The operations, one by one (the sixth part): the builtin functions, conversions. -/
namespace Go.Iv
open Go
variable {P:Program} {Γ:Ga} {H:IH} {w:World}
set_option maxHeartbeats 2000000 in
theorem A3 {t xt ty e:TypeId} {i:TypeInfo} {ats:Array TypeId} (h0:ats[0]? =some t) (h1:ats[1]? =some xt) (hx:isInt P xt=false) (hu:P.underlying t=some (.slice e)) (hi:P.info? e=some i)
  {sLen sCap:Nat} {x':Value} (hlen:(Builtin.lenOf x').run P w= .ok 0 w) (hfit:sLen+0<=sCap) (hnew:(Builtin.firstCells i.size 0 x').run P w= .ok #[] w):
  (Builtin.append_ ats ty #[.slice none sLen sCap,x']).run P w= .ok (.slice none sLen sCap) w:=by
 obtain ⟨d,hd,hnd⟩:=kb hx;have hfit':sLen<=sCap:=hfit
 cases d<;>first
  |exact absurd rfl (hnd _)
  |simp [Builtin.append_,h0,h1,run_underlying hu,run_underlying hd,aR hi,hlen,hfit',hnew]
theorem wv (hR:Rh Γ H w) {ats:Array TypeId} {ty:TypeId} {s x s' x':Value} {res:az} (h:iC P H ats s x=some res) (hs:VR Γ w s s') (hx:VR Γ w x x'):
  Good Γ H w ((bg (Builtin.append_ ats ty #[s',x'])).run P w) res:=by
 unfold iC at h;split at h
 .rename_i t xt h0 h1
  split at h
  .cases h
  .rename_i hxt
   have hxt':isInt P xt=false:=by simpa using hxt
   split at h
   .rename_i e i n he hct
    obtain ⟨hu,hi⟩:=fU he;split at h
    .rename_i z new hz hsl
     split at h
     .rename_i hcond
      simp only [zae,decide_eq_true_eq,beq_iff_eq] at hcond;obtain ⟨⟨⟨hsz,hzs⟩,hln⟩,hone⟩:=hcond;split at h
      .rename_i hn
       subst hn;split at h
       .rename_i a l c
        cases h;have hnil:∀ (a':Option Addr) (c':Nat),l<=c'->s'= .slice a' l c'->(Builtin.append_ ats ty #[s',x']).run P w= .ok s' w:=by
         intro a' c' hlc e1;subst e1;obtain ⟨d,hd,hnd⟩:=kb hxt';have hlen:(Builtin.lenOf x').run P w= .ok 0 w/\(Builtin.firstCells i.size 0 x').run P w= .ok #[] w:=by
          cases x with
          |slice ax lx cx=>
           simp only [fj,Option.some.injEq] at hct;subst hct;cases ax with
           |none=>obtain ⟨_,_,rfl⟩:=hx.lR;exact ⟨rfl,rfl⟩
           |some ax=>
            obtain ⟨b1,o1,_,_,hsr⟩:=hx.fk;rcases hsr with ⟨_,_,a2,rfl,_⟩ |⟨s2,c2,a2,_,rfl,_,_⟩<;>exact ⟨rfl,by simp [Builtin.firstCells,loadCells,loadCellsFrom]⟩
          |string sx=>
           simp only [fj,Option.some.injEq] at hct;rw [hx.cQ];refine ⟨by simp [Builtin.lenOf,hct],?_⟩;simp [Builtin.firstCells]
          |_=>simp [fj] at hct
         cases a' with
         |some a'=>exact nQ (news:=#[]) h0 h1 hxt' hu hi hlen.1 (by omega) hlen.2 (by simp [storeCells])
         |none=>exact A3 h0 h1 hxt' hu hi hlen.1 (by omega) hlen.2
        cases a with
        |none=>
         obtain ⟨rfl,rfl,e1⟩:=hs.lR;exact ai hR hs (ah (hnil none 0 (zal _) e1))
        |some a=>
         obtain ⟨b1,o1,_,_,hsr⟩:=hs.fk;rcases hsr with ⟨_,hlc,a2,e1,_⟩ |⟨s2,c2,a2,_,e1,hlc,_⟩
         .exact ai hR hs (ah (hnil _ _ hlc e1))
         .exact ai hR hs (ah (hnil _ _ hlc e1))
       .cases h
      .exact sQ hR h0 h1 hxt' hu hi hz hzs hsl hct (by omega) hsz hln hone h hs hx
     .cases h
    .cases h
   .cases h
 .cases h
theorem Es (hR:Rh Γ H w) {ats:Array TypeId} {t ty:TypeId} (h0:ats[0]? =some t) {x x' v:Value} (h:fI P H t x=some v) (hx:VR Γ w x x'):(Builtin.len_ ats ty #[x']).run P w= .ok v w/\aU v=true:=by
 unfold fI at h;split at h
 .rename_i s hu
  cases h;rw [hx.cQ];exact ⟨by simp [Builtin.len_,h0,run_underlying hu,goInt],rfl⟩
 .rename_i n e hu
  cases h;exact ⟨by simp [Builtin.len_,h0,run_underlying hu,goInt],rfl⟩
 .rename_i e a n c hu
  cases h;cases a with
  |none=>obtain ⟨rfl,_,rfl⟩:=hx.lR;exact ⟨by simp [Builtin.len_,h0,run_underlying hu,goInt],rfl⟩
  |some a=>
   obtain ⟨b1,o1,_,_,hsr⟩:=hx.fk;rcases hsr with ⟨_,_,a2,rfl,_⟩ |⟨s2,c2,a2,_,rfl,_,_⟩<;>exact ⟨by simp [Builtin.len_,h0,run_underlying hu,goInt],rfl⟩
 .rename_i k e hu
  cases h;rw [hx.Bj];exact ⟨by simp [Builtin.len_,h0,run_underlying hu,goInt],rfl⟩
 .rename_i k e r hu
  split at h
  .rename_i es ck hb
   cases h;obtain ⟨_,rfl⟩:=hx.KR;obtain ⟨es',ho,hE⟩:=hR.obj r _ hb;have hlen:es'.size=es.length:=by
    have:∀ {a b:List MapEntry},gD Γ w a b->a.length=b.length:=by
     intro a b hab
     induction hab with
     |nil=>rfl
     |cons _ _ _ _ _ ih=>simp [ih]
    simpa using (this hE).symm
   refine ⟨?_,rfl⟩;simp [Builtin.len_,h0,run_underlying hu,iz ho,hlen,goInt]
  .cases h
 .cases h
theorem BE (hR:Rh Γ H w) {ats:Array TypeId} {ty:TypeId} {d x d' x':Value} {res:az} (h:Eo P H ats d x=some res) (hd:VR Γ w d d') (hx:VR Γ w x x'):
  Good Γ H w ((bg (Builtin.copy_ ats ty #[d',x'])).run P w) res:=by
 unfold Eo at h;cases h
end Go.Iv
/- The operations, one by one (the seventh part): texts, conversions; all operations that call nothing. -/
namespace Go.Iv
open Go
variable {P:Program} {Γ:Ga} {H:IH} {w:World}
theorem kW (hR:Rh Γ H w) {s:Sem Value} {res:az} (h:cI P H s=some res):Good Γ H w ((bg s).run P w) res:=by
 unfold cI at h;split at h
 .rename_i v hv
  split at h
  .rename_i hf;cases h;exact ai hR (.bW hf) (ah (jD hv w))
  .cases h
 .cases h
theorem p9 {cs:List Value} {bs:List UInt8} (h:bytesOf cs=some bs):∃ ns:List Int,cs=ns.map (Value.int .u8)/\bs=ns.map fun n=>UInt8.ofNat n.toNat:=by
 induction cs generalizing bs with
 |nil=>simp only [bytesOf,Option.some.injEq] at h;simp_all
 |cons v vs ih=>
  simp only [bytesOf] at h;split at h
  .rename_i b bs' hb hbs
   cases h;obtain ⟨ns,rfl,rfl⟩:=ih hbs;unfold byteOf at hb;split at hb
   .rename_i n;cases hb;exact ⟨n::ns,rfl,rfl⟩
   .cases hb
  .cases h
theorem xr (ns:List Int):(ns.map (Value.int .u8)).all aU=true:=by
 induction ns with
 |nil=>rfl
 |cons n ns ih=>rw [List.map_cons,List.all_cons,ih];rfl
theorem fold_push (ns:List Int) (s:ByteArray):ns.foldl (fun r n=>r.push (UInt8.ofNat n.toNat)) s=ba (bl s++ns.map fun n=>UInt8.ofNat n.toNat):=by
 induction ns generalizing s with
 |nil=>simp [MU]
 |cons n ns ih=>
  simp only [List.foldl_cons,ih,List.map_cons]
  congr 1
  have:bl (s.push (UInt8.ofNat n.toNat))=bl s++ [UInt8.ofNat n.toNat]:=by simp [bl,ByteArray.push]
  rw [this];simp
theorem Bq:bl ByteArray.empty= []:=rfl
theorem sW (hR:Rh Γ H w) {src dst e:TypeId} {x x':Value} {res:az} (hs:P.underlying src=some (.slice e)) (hd:P.underlying dst=some .string) (h:cP P H e x=some res) (hx:VR Γ w x x'):
  Good Γ H w ((bg (convert src dst x')).run P w) res:=by
 have hconv:∀ a l c,P.underlying e=some (.int .u8)->(convert src dst (.slice a l c)).run P w=(Conv.bytesToString (.slice a l c)).run P w:=by
  intro a l c he;simp [convert,run_underlying hs,run_underlying hd,run_underlying he]
 unfold cP at h;split at h
 .rename_i l c he
  cases h;obtain ⟨_,_,rfl⟩:=hx.lR;refine ai hR (.string _) (ah ?_);rw [hconv _ _ _ he];rfl
 .rename_i b off len cap he
  obtain ⟨b1,o1,e1,hd',hsr⟩:=hx.fk;cases e1;split at h
  .rename_i hl0
   cases h;subst hl0;have:∃ a' c',x'= .slice (some a') 0 c':=by
    rcases hsr with ⟨_,_,a2,rfl,_⟩ |⟨s2,c2,a2,_,rfl,_,_⟩<;>exact ⟨_,_,rfl⟩
   obtain ⟨a',c',rfl⟩:=this;refine ai hR (.string _) (ah ?_);rw [hconv _ _ _ he,run_bytesToString w a' 0 c' [] (by rfl)];rfl
  .rename_i hl0
   split at h
   .rename_i cs hc
    split at h
    .rename_i bs hbs
     cases h;have:∃ c',x'= .slice (some (Γ.at b off)) len c':=by
      rcases hsr with ⟨_,_,a2,rfl,ha⟩ |⟨s2,c2,a2,_,rfl,_,hr⟩
      .grind
      .grind
     obtain ⟨c',rfl⟩:=this;obtain ⟨ns,rfl,rfl⟩:=p9 hbs;obtain ⟨cs',h1,h2,h3⟩:=oF (P:=P) hR hc;obtain rfl:=h1.da (xr ns);refine ai hR (.string _) (ah ?_);rw [hconv _ _ _ he,run_bytesToString w _ len c' ns (h3 w rfl),fold_push,Bq];rfl
    .cases h
   .cases h
 .cases h
theorem nX {w:World} {B:Nat} {cs:Array Value} {e:TypeId} {lo hi:Nat} (h:w.heap[B]? =some (.cells cs e (lo,hi))) {off n:Nat} {sp:Option Nat} (hn:n≠0):
  w.freeze ⟨B,off,sp⟩ n=lay w B (.cells cs e (if lo==hi then (off,off+n) else (min lo off,max hi (off+n)))):=by
 obtain ⟨hlt,hb⟩:=Array.getElem?_eq_some_iff.1 h;simp only [World.freeze,hn,if_false,lay]
 congr 1
 grind
theorem uw (hR:Rh Γ H w) {src dst e:TypeId} {s:ByteArray} {x':Value} {res:az} (hs:P.underlying src=some .string) (hd:P.underlying dst=some (.slice e)) (h:fc P H e s=some res) (hx:VR Γ w (.string s) x'):
  Good Γ H w ((bg (convert src dst x')).run P w) res:=by
 unfold fc at h;split at h
 .rename_i he
  cases h;rw [hx.cQ];have hge:=grownCap_ge w s.size 0 e;obtain ⟨arr,harr⟩:∃ arr:Array Value,arr=s.data.map (fun b=>Value.int .u8 b.toNat)++Array.replicate (grownCap w s.size 0 e - s.size) (.int .u8 0):=⟨_,rfl⟩;have hsz:arr.size=grownCap w s.size 0 e:=by
   rw [harr];simp only [Array.size_append,Array.size_map,Array.size_replicate];have:s.data.size=s.size:=rfl;omega
  have hnew:=heap_alloc_new (w:=w.drew) (o:= .cells arr e);have hsz0:w.drew.heap.size=w.heap.size:=rfl;rw [hsz0] at hnew;have hrun:(convert src dst (.string s)).run P w= .ok (.slice (some ⟨w.heap.size,0,none⟩) s.size (grownCap w s.size 0 e)) (lay (w.drew.alloc (.cells arr e)) w.heap.size (.cells arr e (arr.size,arr.size+1))):=by
   have hsh:(w.drew.alloc (.cells arr e)).shape? w.heap.size=some (e,arr.size):=by
    simp only [World.shape?,hnew]
   have hfr:=nX (w:=w.drew.alloc (.cells arr e)) (B:=w.heap.size) hnew (off:=arr.size) (sp:=none) (n:=1) (by decide);simp only [beq_self_eq_true,if_true] at hfr;have hcap:(Question.appendCap s.size 0 e).cut (w.tape w.drawn (Question.appendCap s.size 0 e))=grownCap w s.size 0 e:=rfl;simp only [convert,Sem.run_bind,run_underlying hs,run_underlying hd,run_underlying he,Result.andThen_ok,Conv.stringToBytes,run_choose,Question.forced,Bool.false_eq_true,if_false,hcap,←harr];simp only [newRow,Sem.run_bind,run_newObj,Result.andThen_ok,Sem.run_pure,markStringish,run_shape,World.drew_eq,World.alloc_eq,hsz0,hsh,run_freeze,hfr]
  have hn0:¬ Γ.aT H.n:=fun x=>by have:=hR.aT _ x;omega
  have hsame:eD w (lay (w.drew.alloc (.cells arr e)) w.heap.size (.cells arr e (arr.size,arr.size+1))):=((hR.drew.2.same).trans (.alloc _ _)).trans (iL hnew rfl);obtain ⟨h1,h2⟩:=ug hR (.cells ((bl s).map fun c=> .int .u8 c.toNat) e 0 false false) (.cells arr e) (by
   refine ⟨arr,0,0,by simp_all,?_,?_,fun x=>(by cases x),fun _=>⟨zal _,fun j a b=>by omega⟩,fun x=>(by cases x)⟩
   .rw [Ga.bh,hsz]
    have:(bl s).length=s.size:=Array.length_toList
    grind
   .intro j v hj
    rw [List.getElem?_map] at hj;refine ⟨v,?_,?_⟩
    .rw [Ga.bh,harr,←Array.getElem?_toList]
     simp only [Array.toList_append,Array.toList_map];have hlt:j<(bl s).length:=by
      rcases Nat.lt_or_ge j (bl s).length with x |x
      .exact x
      .grind
     rw [List.getElem?_append_left (by simpa [bl] using hlt),List.getElem?_map];simpa [bl] using hj
    .cases hc:(bl s)[j]? with
     |none=>grind
     |some c=>rw [hc] at hj;cases hj;exact .int _ _)
  have hb:(H.new (.cells ((bl s).map fun c=> .int .u8 c.toNat) e 0 false false)).get H.n=some (.cells ((bl s).map fun c=> .int .u8 c.toNat) e 0 false false):=by rw [IH.ay,if_pos rfl]
  obtain ⟨cs1,lo1,hi1,hr1⟩:=h1.obj _ _ hb;have hblk1:=hr1.block;rw [Ga.bh] at hblk1;simp only at hblk1;rw [hnew] at hblk1;cases hblk1
  obtain ⟨h3,h4⟩:=h1.gS (w':=lay (w.drew.alloc (.cells arr e)) w.heap.size (.cells arr e (arr.size,arr.size+1))) (.cells ((bl s).map fun c=> .int .u8 c.toNat) e 0 false true) hb hR.ro (by simp) rfl rfl rfl (iL hnew rfl)
   (fun x hx=>by rw [Ga.bh] at hx;exact bE hx) (by
    refine ⟨arr,arr.size,arr.size+1,by rw [Ga.bh];exact bC hnew,hr1.room,fun i v hv=>?_,fun x=>(by cases x),fun _=>⟨Nat.le_succ _,fun j a b=> .inr ⟨rfl,a⟩⟩,fun _=>by rw [Ga.bh]⟩;obtain ⟨v',a,b⟩:=hr1.cell i v hv;exact ⟨v',a,b.mono (.refl _) (iL hnew rfl)⟩)
  have hput:(H.new (.cells ((bl s).map fun c=> .int .u8 c.toNat) e 0 false false)).put H.n (.cells ((bl s).map fun c=> .int .u8 c.toNat) e 0 false true)=H.new (.cells ((bl s).map fun c=> .int .u8 c.toNat) e 0 false true):=IH.GS _ _ _;rw [hput] at h3 h4;refine ⟨_,_,_,ah hrun,?_,h3,h2.trans h4⟩;refine .dK (.inr rfl) hge (.inr ⟨by simp [Ga.at,Ga.bh],⟨arr,e,_,bC hnew,by simp;omega⟩⟩)
 .cases h
theorem p7 (hR:Rh Γ H w) {src dst e0 e:TypeId} {b off l c:Nat} {x':Value} {res:az} (hs:P.underlying src=some (.slice e0)) (hd:P.underlying dst=some (.slice e))
  (h:gT P H src dst e b off l c=some res) (hx:VR Γ w (.slice (some ⟨b,off,none⟩) l c) x'):Good Γ H w ((bg (convert src dst x')).run P w) res:=by
 unfold gT at h;split at h
 .rename_i hsd
  split at h
  .rename_i cs e' fz ex sh he hb
   split at h
   .rename_i hcond
    cases h;simp only [zae,decide_eq_true_eq,beq_iff_eq] at hcond;obtain ⟨⟨hro,hfz⟩,hexsh⟩:=hcond;subst hfz;obtain ⟨cs',lo,hi,hr⟩:=hR.obj b _ hb;have hbase:(Γ.φ b).2=0:=by
     simp only [Bool.or_eq_true] at hexsh;rcases hexsh with x |x
     .exact (hr.lM x).1
     .exact hr.Gy x
    have hfro:∀ j,lo<=j->j<hi->cs'.size<=j:=fun j h1 h2=>by
     rcases (hr.frozen hro).2 j h1 h2 with y |⟨_,y⟩
     .omega
     .exact y
    have hblock:∃ a' l' c',x'= .slice (some a') l' c'/\a'.block=(Γ.φ b).1:=by
     obtain ⟨b1,o1,e1,_,hsr⟩:=hx.fk;cases e1;rcases hsr with ⟨_,_,a2,rfl,ha⟩ |⟨s2,c2,a2,_,rfl,_,hr2⟩
     .exact ⟨_,_,_,rfl,by rcases ha with ⟨_,x⟩ |rfl<;>first |exact x |rfl⟩
     .exact ⟨_,_,_,rfl,by rcases hr2 with ⟨_,_,x⟩ |⟨rfl,_⟩<;>first |exact x |rfl⟩
    obtain ⟨a',l',c',rfl,hblk⟩:=hblock;have hsh:w.shape? (Γ.φ b).1=some (e',cs'.size):=by simp only [World.shape?,hr.block]
    obtain ⟨fr,hfr⟩:∃ fr,fr=(if lo==hi then (cs'.size,cs'.size+1) else (min lo cs'.size,max hi (cs'.size+1))):=⟨_,rfl⟩;have hfrz:=nX (w:=w) hr.block (off:=cs'.size) (sp:=none) (n:=1) (by decide);rw [←hfr] at hfrz;have hrun:(convert src dst (.slice (some a') l' c')).run P w= .ok (.slice (some a') l' c') (lay w (Γ.φ b).1 (.cells cs' e' fr)):=by
     simp only [convert,Sem.run_bind,run_underlying hs,run_underlying hd,run_underlying he,Result.andThen_ok,hsd,markStringish,run_shape,hblk,hsh,run_freeze,hfrz,Sem.run_pure]
    have hfr1:∀ j,fr.1<=j->cs'.size<=j:=by
     intro j hj;rw [hfr] at hj;by_cases hlh:lo=hi
     .grind
     .have hne:(lo==hi)=false:=by simpa using hlh
      simp only [hne,Bool.false_eq_true,if_false] at hj;have hl:lo<hi:=by have:=(hr.frozen hro).1;omega
      grind
    have hfr2:fr.1<=fr.2:=by
     rw [hfr];split
     .omega
     .simp only;omega
    have hsame:=iL (cs':=cs') (f':=fr) hr.block rfl
    obtain ⟨h3,h4⟩:=hR.gS (w':=lay w (Γ.φ b).1 (.cells cs' e' fr)) (.cells cs e' 0 ex true) hb hro (by simp) rfl rfl rfl hsame
     (fun x hx=>bE hx) (by
      refine ⟨cs',fr.1,fr.2,bC hr.block,hr.room,fun i v hv=>?_,hr.lM,fun _=>⟨hfr2,fun j h1 h2=> .inr ⟨rfl,hfr1 j h1⟩⟩,fun _=>hbase⟩;obtain ⟨v',a,b⟩:=hr.cell i v hv;exact ⟨v',a,b.mono (.refl _) hsame⟩)
    refine ⟨_,_,_,ah hrun,hx.mono (.refl _) hsame,h3,h4⟩
   .cases h
  .cases h
 .cases h
end Go.Iv
/- The operations, one by one (the eighth part): bare memory; all that call nothing. -/
namespace Go.Iv
open Go
variable {P:Program} {Γ:Ga} {H:IH} {w:World}
theorem pX {B off:Nat} {sp:Option Nat} {cs:Array Value} {e:TypeId} {f:Nat×Nat} (h:w.heap[B]? =some (.cells cs e f)):(Conv.seenAt ⟨B,off,sp⟩).run P w= .ok ⟨B,off,sp⟩ w:=by
 have hsh:w.shape? B=some (e,cs.size):=by simp only [World.shape?,h]
 simp [Conv.seenAt,viewAt,hsh]
theorem o8 {t:TypeId} (h:(P.cellsOf t !=0)=true):∃ i,P.info? t=some i/\i.size≠0/\P.cellsOf t=i.size:=by
 unfold Program.cellsOf at h ⊢;cases hi:P.info? t with
 |none=>simp [hi] at h
 |some i=>grind
theorem sM (hR:Rh Γ H w) {src dst t:TypeId} {x x':Value} {res:az} (hs:P.underlying src=some (.pointer t)) (hd:P.underlying dst=some .unsafePointer) (h:dB P H t x=some res) (hx:VR Γ w x x'):
  Good Γ H w ((bg (convert src dst x')).run P w) res:=by
 have hconv:∀ a,(convert src dst (.pointer a)).run P w=(Conv.unsafePointer src dst (.pointer a)).run P w:=by
  intro a;simp [convert,run_underlying hs,run_underlying hd]
 unfold dB at h;split at h
 .cases h;rw [hx.xq]
  exact ai hR .wN (ah (by rw [hconv];simp [Conv.unsafePointer,run_underlying hs,run_underlying hd]))
 .rename_i b off
  split at h
  .rename_i cs e fz ex sh hb
   split at h
   .rename_i hc
    cases h;simp only [zae,decide_eq_true_eq] at hc;obtain ⟨i,hi,hi0,_⟩:=o8 hc.1;obtain ⟨b1,o1,e1,hd',rfl⟩:=hx.nR;cases e1;obtain ⟨cs',lo,hi',hr⟩:=hR.obj b _ hb;refine ai hR (.ptr hd') (ah ?_);rw [hconv];have hsh:w.shape? (Γ.φ b).1=some (e,cs'.size):=by simp only [World.shape?,hr.block]
    have hlt:¬ cs'.size<=(Γ.φ b).2+off:=by have:=hr.room;omega
    have hseen:=pX (P:=P) (off:=(Γ.φ b).2+off) (sp:=none) hr.block;simp [Conv.unsafePointer,run_underlying hs,run_underlying hd,Ga.at,hseen,cellsIn,hsh,hlt,aR hi,hi0]
   .cases h
  .cases h
 .cases h
theorem pZ (hR:Rh Γ H w) {src dst u:TypeId} {x x':Value} {res:az} (hs:P.underlying src=some .unsafePointer) (hd:P.underlying dst=some (.pointer u)) (h:cz P H u x=some res) (hx:VR Γ w x x'):
  Good Γ H w ((bg (convert src dst x')).run P w) res:=by
 have hconv:∀ a,(convert src dst (.pointer a)).run P w=(Conv.unsafePointer src dst (.pointer a)).run P w:=by
  intro a;simp [convert,run_underlying hs,run_underlying hd]
 unfold cz at h;split at h
 .cases h;rw [hx.xq]
  exact ai hR .wN (ah (by rw [hconv];simp [Conv.unsafePointer,run_underlying hs,run_underlying hd]))
 .rename_i b off
  split at h
  .rename_i cs e fz sh hb
   split at h
   .rename_i hc
    cases h;simp only [zae] at hc;obtain ⟨i,hi,hi0,_⟩:=o8 hc.1;obtain ⟨b1,o1,e1,hd',rfl⟩:=hx.nR;cases e1;obtain ⟨cs',lo,hi',hr⟩:=hR.obj b _ hb;obtain ⟨hb0,hsz⟩:=hr.lM rfl;refine ai hR (.ptr hd') (ah ?_);rw [hconv];have hsh:w.shape? (Γ.φ b).1=some (e,cs'.size):=by simp only [World.shape?,hr.block]
    have hseen:=pX (P:=P) (off:=off) (sp:=none) hr.block;simp [Conv.unsafePointer,run_underlying hs,run_underlying hd,Ga.at,hb0,hseen,aR hi,hi0,variablesAt,hsh,hsz,hc.2]
   .cases h
  .cases h
 .cases h
theorem run_loadBytes (b:Nat) (cs:List Int):∀ (off:Nat) (acc:ByteArray),(∀ (j:Nat) (n:Int),cs[j]? =some n->w.cell? ⟨b,off+j,none⟩=some (.int .u8 n))->
  (loadBytes ⟨b,off,none⟩ acc cs.length).run P w= .ok (cs.foldl (fun r n=>r.push (UInt8.ofNat n.toNat)) acc) w:=by
 induction cs with
 |nil=>intro off acc _;simp [loadBytes]
 |cons n cs ih=>
  intro off acc h;have h0:=h 0 n rfl;simp only [Nat.add_zero] at h0;have hadd:(⟨b,off,none⟩:Addr).add 1=⟨b,off+1,none⟩:=by simp [Addr.add]
  simp only [zad,loadBytes,Sem.run_bind,run_load,h0,Result.andThen_ok,hadd,List.foldl_cons];exact ih (off+1) _ fun j m hj=>by
   have:=h (j+1) m (by simpa using hj)
   grind
theorem Pm (ats:Array TypeId) (ty t0:TypeId) (h0:ats[0]? =some t0) (n:Int):∃ (x y:Sem Unit) (z:Sem Value),(Builtin.unsafeString_ ats ty #[.pointer none,.int .i64 n])=
  (do
   let n ←asInt (.int .i64 n)
   if n<0 then x
   if n>IntKind.i64.max then y
   if n=0 then pure (.string .empty)
   else z):=by
 have:∃ (x y:Sem Unit) (z u:Sem Value),(Builtin.unsafeString_ ats ty #[.pointer none,.int .i64 n])=(do
   let n ←asInt (.int .i64 n)
   match ats[0]? with
   |some _=>do
    if n<0 then x
    if n>IntKind.i64.max then y
    if n=0 then pure (.string .empty)
    else z
   |_=>u):=⟨_,_,_,_,rfl⟩
 simp_all
theorem Gs (ats:Array TypeId) (ty t0:TypeId) (h0:ats[0]? =some t0) (a:Addr) (n:Int):∃ (x y:Sem Unit) (z:Sem Value),(Builtin.unsafeString_ ats ty #[.pointer (some a),.int .i64 n])=
  (do
   let n ←asInt (.int .i64 n)
   if n<0 then x
   if n>IntKind.i64.max then y
   if n=0 then pure (.string .empty)
   else if ←variablesAt a (←elemOf t0) n.toNat then do
    let s ←loadBytes a .empty n.toNat
    freeze a n.toNat
    pure (.string s)
   else z):=by
 have:∃ (x y:Sem Unit) (z u:Sem Value),(Builtin.unsafeString_ ats ty #[.pointer (some a),.int .i64 n])=(do
   let n ←asInt (.int .i64 n)
   match ats[0]? with
   |some pt=>do
    if n<0 then x
    if n>IntKind.i64.max then y
    if n=0 then pure (.string .empty)
    else if ←variablesAt a (←elemOf pt) n.toNat then do
     let s ←loadBytes a .empty n.toNat
     freeze a n.toNat
     pure (.string s)
    else z
   |_=>u):=⟨_,_,_,_,rfl⟩
 simp_all
theorem vY (hR:Rh Γ H w) {ats:Array TypeId} {ty:TypeId} {p p':Value} {n:Int} {res:az} (h:ic P H ats p n=some res) (hp:VR Γ w p p') (h0:∃ t,ats[0]? =some t):
  Good Γ H w ((bg (Builtin.unsafeString_ ats ty #[p',.int .i64 n])).run P w) res:=by
 obtain ⟨t0,h0⟩:=h0;unfold ic at h;split at h
 .split at h
  .rename_i hn
   cases h;rw [hp.xq];refine ai hR (.string _) (ah ?_);obtain ⟨_,_,_,hus⟩:=Pm ats ty t0 h0 _;rw [hus];simp [asInt,asIntOf,hn];rfl
  .cases h
 .rename_i b off
  obtain ⟨b1,o1,e1,hd,rfl⟩:=hp.nR;cases e1;split at h
  .rename_i hn
   cases h;refine ai hR (.string _) (ah ?_);obtain ⟨_,_,_,hus⟩:=Gs ats ty t0 h0 (Γ.at b off) n;rw [hus];simp [asInt,asIntOf,hn];rfl
  .rename_i hn
   split at h
   .rename_i cs e fz ex sh pt hb hpt
    rw [h0] at hpt;cases hpt;by_cases hcond:(decide (ep<=b) && !sh &&decide (0<=n) &&decide (n<=(roomy:Int)) &&decide (off+n.toNat<=cs.length) &&P.cellsOf e==1 &&oN P t0 e)=true
    .rw [if_pos hcond] at h
     split at h
     .rename_i bs hbs
      cases h;simp only [zae,decide_eq_true_eq,Bool.not_eq_true',beq_iff_eq] at hcond;obtain ⟨⟨⟨⟨⟨⟨hro,hsh⟩,hn0⟩,hnb⟩,hle⟩,hone⟩,hpe⟩:=hcond;have hptr:P.underlying t0=some (.pointer e):=by
       unfold oN at hpe;split at hpe
       .rename_i e2 hu;rw [hu,beq_iff_eq.1 hpe]
       .cases hpe
      subst hsh;obtain ⟨cs',lo,hi,hr⟩:=hR.obj b _ hb;have hcell:=hr.room;obtain ⟨ns,hns,rfl⟩:=p9 hbs;have hnl:ns.length=n.toNat:=by
       have:=congrArg List.length hns;simp at this;omega
      have hshape:w.shape? (Γ.φ b).1=some (e,cs'.size):=by simp only [World.shape?,hr.block]
      have hca:H.bf b off n.toNat=some (ns.map (Value.int .u8)):=by
       simp only [IH.bf,hb];rw [if_pos hle,hns]
      obtain ⟨cs2,h1,h2,h3⟩:=hR.bf hca;obtain rfl:=h1.da (xr ns);have hloads:(loadBytes (Γ.at b off) .empty n.toNat).run P w= .ok (ba (ns.map fun m=>UInt8.ofNat m.toNat)) w:=by
       have:=run_loadBytes (P:=P) (w:=w) (Γ.φ b).1 ns ((Γ.φ b).2+off) .empty (fun j m hj=>by
        have:=h3 j (.int .u8 m) (by simpa using hj);rw [gJ] at this;rw [←this];simp [Ga.at,Nat.add_assoc])
       rw [hnl,fold_push,Bq] at this;exact this
      have hvar:(variablesAt (Γ.at b off) e n.toNat).run P w= .ok true w:=by
       have hlies:liesAt P P.depth e (cs'.size / P.cellsOf e) ((Γ.φ b).2+off) e n.toNat=true:=by
        have hdep:P.depth=(2*(P.types.size+Made.depth)+1)+1:=rfl;have hfit:(Γ.φ b).2+off+n.toNat<=cs'.size:=by omega
        have hsl:sameLayout P P.depth e e=true:=by rw [hdep];simp [sameLayout]
        have hrow:rowAt P (fun x=>sameLayout P P.depth x e) P.depth e cs'.size ((Γ.φ b).2+off) n.toNat=true:=by
         rw [hdep];simp [rowAt,hone,hfit,←hdep,hsl,Nat.mod_one]
        rw [hone,Nat.div_one,hdep,liesAt,hrow];rfl
       simp [variablesAt,Ga.at,hshape,hlies]
      obtain ⟨fr,hfr⟩:∃ fr,fr=(if lo==hi then ((Γ.φ b).2+off,(Γ.φ b).2+off+n.toNat) else (min lo ((Γ.φ b).2+off),max hi ((Γ.φ b).2+off+n.toNat))):=⟨_,rfl⟩;have hfrz:=nX (w:=w) hr.block (off:=(Γ.φ b).2+off) (sp:=none) (n:=n.toNat) (by omega);rw [←hfr] at hfrz;have hrun:(Builtin.unsafeString_ ats ty #[.pointer (some (Γ.at b off)),.int .i64 n]).run P w= .ok (.string (ba (ns.map fun m=>UInt8.ofNat m.toNat))) (lay w (Γ.φ b).1 (.cells cs' e fr)):=by
       have e1:¬ n<0:=by omega
       have e2:¬ n>9223372036854775807:=by
        have:((roomy:Nat):Int)=1099511627776:=by decide
        omega
       have hel:(elemOf t0).run P w= .ok e w:=by simp [elemOf,run_underlying hptr]
       obtain ⟨_,_,_,hus⟩:=Gs ats ty t0 h0 (Γ.at b off) n;rw [hus];simp [asInt,asIntOf,e1,e2,hn,hel,hvar,hloads];exact hfrz
      have hord:=(hr.frozen hro).1;have hfro:∀ j,lo<=j->j<hi->j<(Γ.φ b).2+fz:=fun j a c=>((hr.frozen hro).2 j a c).resolve_right (by simp)
      have hsame:=iL (cs':=cs') (f':=fr) hr.block rfl;obtain ⟨h4,h5⟩:=hR.gS (w':=lay w (Γ.φ b).1 (.cells cs' e fr)) (.cells cs e (max fz (off+n.toNat)) ex false) hb hro (by simp) rfl rfl rfl hsame (fun x hx=>bE hx) (by
       refine ⟨cs',fr.1,fr.2,bC hr.block,hr.room,fun i v hv=>?_,hr.lM,fun _=>⟨?_,fun j a c=> .inl ?_⟩,fun x=>(by cases x)⟩
       .obtain ⟨v',a,c⟩:=hr.cell i v hv;exact ⟨v',a,c.mono (.refl _) hsame⟩
       .rw [hfr];split<;>(simp only;omega)
       .rw [hfr] at a c
        by_cases hlh:lo=hi
        .subst hlh
         simp at a c;omega
        .have hne:(lo==hi)=false:=by simpa using hlh
         simp only [hne,Bool.false_eq_true,if_false] at a c;have:=hfro (hi - 1) (by omega) (by omega);omega)
      exact ⟨_,_,_,ah hrun,.string _,h4,h5⟩
     .cases h
    grind
   .cases h
 .cases h
theorem tP (hR:Rh Γ H w) {src dst:TypeId} {x x':Value} {res:az} (h:aQ P H src dst x=some res) (hx:VR Γ w x x'):Good Γ H w ((bg (convert src dst x')).run P w) res:=by
 unfold aQ at h;split at h
 .rename_i k1 k hs hd
  split at h
  .cases h;rw [hx.eU]
   exact ai hR (.int _ _) (ah (by simp [convert,run_underlying hs,run_underlying hd,Conv.intToInt]))
  .cases h
 .rename_i k1 hs hd
  split at h
  .cases h;rw [hx.eU]
   exact ai hR (.string _) (ah (by simp [convert,run_underlying hs,run_underlying hd,Conv.intToString]))
  .cases h
 .rename_i hs hd
  split at h
  .cases h;rw [hx.cQ]
   exact ai hR (.string _) (ah (by simp [convert,run_underlying hs,run_underlying hd]))
  .cases h
 .rename_i e hs hd
  split at h
  .exact uw hR hs hd h hx
  .cases h
 .rename_i e0 e hs hd
  split at h
  .exact p7 hR hs hd h hx
  .cases h
 .rename_i e hs hd
  exact sW hR hs hd h hx
 .rename_i t hs hd
  exact sM hR hs hd h hx
 .rename_i u hs hd
  exact pZ hR hs hd h hx
 .cases h
end Go.Iv
/- The operations, one by one (the ninth part): the builtins, deferring, and all that call nothing. -/
namespace Go.Iv
open Go
variable {P:Program} {Γ:Ga} {H:IH} {w:World}
theorem bX.J5 {x:Value} {args':Array Value} (h:bX Γ w [x] args'.toList):∃ x',args'=#[x']/\VR Γ w x x':=by
 obtain ⟨l⟩:=args';cases h with
 |cons hx t=>cases t;grind
theorem bX.L6 {x y:Value} {args':Array Value} (h:bX Γ w [x,y] args'.toList):∃ x' y',args'=#[x',y']/\VR Γ w x x'/\VR Γ w y y':=by
 obtain ⟨l⟩:=args';cases h with
 |cons hx t=>cases t with
  |cons hy t=>cases t;grind
theorem C4 (ats:Array TypeId) (ty:TypeId) (a:Addr) (l c:Nat):Builtin.unsafeSliceData_ ats ty #[.slice (some a) l c]=
  (if c≠0 then pure (.pointer (some a)) else (do if (←viewAt a.block).isSome then pure (.pointer (some a)) else pure (.pointer (some ⟨←newObj (.view a (←elemOf ty)),0,none⟩)))):=rfl
theorem vP (hR:Rh Γ H w) {b:Builtin} {ats:Array TypeId} {ty:TypeId} {consts:Array Bool} {args:List Value} {args':Array Value} {res:az}
  (h:bj P H b ats ty args=some res) (ha:bX Γ w args args'.toList):Good Γ H w ((builtin b ats ty consts args').run P w) res:=by
 unfold bj at h;split at h
 .obtain ⟨s',x',rfl,h1,h2⟩:=ha.L6
  exact wv hR h h1 h2
 .obtain ⟨x',rfl,h1⟩:=ha.J5
  split at h
  .rename_i t h0
   unfold valOf at h;split at h
   .rename_i v hv
    cases h;obtain ⟨h2,h3⟩:=Es (ty:=ty) hR h0 hv h1;exact ai hR (.bW h3) (ah h2)
   .cases h
  .cases h
 .rename_i base l c
  obtain ⟨x',rfl,h1⟩:=ha.J5;split at h
  .rename_i t h0
   split at h
   .rename_i e hu
    split at h
    .cases h
    .rename_i hc
     cases h;have:∃ a' l',x'= .slice a' l' c:=by
      cases base with
      |none=>obtain ⟨rfl,rfl,rfl⟩:=h1.lR;grind
      |some a=>
       obtain ⟨b,o,rfl,hd,h2 |h2⟩:=h1.fk
       .obtain ⟨_,_,a',rfl,_⟩:=h2;exact ⟨_,_,rfl⟩
       omega
     obtain ⟨a',l',rfl⟩:=this;exact ai hR (.int _ _) (ah (by simp [Builtin.cap_,h0,run_underlying hu,goInt]))
   .cases h
  .cases h
 .obtain ⟨d',x',rfl,h1,h2⟩:=ha.L6
  exact BE hR h h1 h2
 .split at h
  .rename_i hf
   obtain ⟨l⟩:=args';obtain rfl:=ha.da hf;exact kW hR h
  .cases h
 .split at h
  .rename_i hf
   obtain ⟨l⟩:=args';obtain rfl:=ha.da hf;exact kW hR h
  .cases h
 .obtain ⟨x',rfl,h1⟩:=ha.J5
  cases h;obtain ⟨rfl,rfl,rfl⟩:=h1.lR;exact ai hR .wN (ah rfl)
 .obtain ⟨x',rfl,h1⟩:=ha.J5
  split at h
  .cases h
  .rename_i hl
   cases h;obtain ⟨b,o,rfl,hd,h2 |h2⟩:=h1.fk
   .obtain ⟨_,hlc,a',rfl,h3⟩:=h2
    have hc0:¬ _=0:=fun e=>hl (Nat.le_zero.1 (e▸hlc))
    obtain rfl:=h3.resolve_left fun h=>hc0 h.1
    exact ai hR (.ptr hd) (ah (by rw [C4,if_pos hc0];rfl))
   .obtain ⟨s,c',a',rfl,rfl,hlc,h3⟩:=h2
    have hc0:¬ c'=0:=by omega
    obtain ⟨rfl,_⟩:=h3.resolve_left fun h=>hc0 h.1
    exact ai hR (.ptr hd) (ah (by rw [C4,if_pos hc0];rfl))
 .obtain ⟨p',x',rfl,h1,h2⟩:=ha.L6
  obtain rfl:=h2.eU;split at h
  .rename_i h0
   exact vY hR h h1 (Option.isSome_iff_exists.1 h0)
  .cases h
 .cases h
theorem Ad (_hR:Rh Γ H w) {f f':Value} {args:List Value} {args':Array Value} {res:az} (h:oJ H f args=some res) (hf:VR Γ w f f') (ha:bX Γ w args args'.toList):
  Good Γ H w ((do pure (.defer (←Deferred.ofValue f' args')):Sem Next).run P w) res:=by
 unfold oJ at h;split at h
 .rename_i fn first captured
  split at h
  .rename_i hp
   cases h;obtain ⟨a',c',rfl,h1,h2⟩:=hf.Gq hp;refine ⟨rfl,fn,_,c',_,a'++args',hp,rfl,by rfl,h2,?_⟩;simpa using h1.append ha
  .cases h
 .cases h
theorem zo (hR:Rh Γ H w) {x x':Value} {res:az} (h:tH H x=some res) (hx:VR Γ w x x'):Good Γ H w ((bg (Instr.panic x')).run P w) res:=by
 unfold tH at h;split at h
 .cases h
  obtain ⟨y,rfl,hy⟩:=hx.Fs;exact ⟨_,w,Γ,by rfl,.iface _ hy,hR,.refl Γ H w⟩
 .cases h
def iX (o:Oper):Bool:=
 match o.op with
 | .call c=>match c.callee with
  | .builtin _=>true
  |_=>false
 |_=>true
theorem yA (hR:Rh Γ H w) {ρ:Operand->Value} {a:Act} (hv:∀ x,VR Γ w (ρ x) (a.eval x)) {self:Self} {o:Oper} (hp:iX o=true) {res:az} (h:aG P self ρ H o=some res):
  Good Γ H w ((execOp a.eval o).run P w) res:=by
 unfold aG at h;split at h
 .rename_i ho;cases h;exact ai hR (hv _) (by simp [execOp,ho])
 .rename_i ho;cases h;exact ai hR (hv _) (by simp [execOp,ho])
 .rename_i ho;simp only [execOp,ho];exact CQ hR h (hv _) (hv _) (hv _)
 .rename_i ho;simp only [execOp,ho];exact yY hR h
 .rename_i ho;simp only [execOp,ho];exact FJ hR h (hv _)
 .rename_i ho;simp only [execOp,ho];exact AG hR h (by simpa using Ol.eK hv _)
 .rename_i ho;simp only [execOp,ho];exact pL hR h (by simpa using Ol.eK hv _)
 .rename_i ho;simp only [execOp,ho];exact B4 hR h (hv _)
 .rename_i ho;simp only [execOp,ho];exact zL hR h (hv _) (hv _)
 .rename_i ho;exact sP hR ho h (hv _)
 .rename_i ho;simp only [execOp,ho];exact FU hR h (hv _) (hv _)
 .rename_i ho;simp only [execOp,ho];exact IV hR h (hv _)
 .rename_i ho;simp only [execOp,ho];exact tP hR h (hv _)
 .rename_i ho;simp only [execOp,ho];exact qU hR h (hv _)
 .rename_i fn first captured ho
  split at h
  .rename_i hf
   cases h;refine ai hR (v':= .func fn (first.map a.eval) (captured.map a.eval)) (.func hf ?_ ?_) (by simp [execOp,ho,Instr.makeFunc])
   .simpa using bX.eK hv first.toList
   .simpa using bX.eK hv captured.toList
  .cases h
 .rename_i r ho;simp only [execOp,ho]
  refine uV hR h (fun v hv'=>?_) (fun hn=>?_)
  .cases r with
   |none=>cases hv'
   |some r=>cases hv';exact ⟨_,rfl,hv _⟩
  simp_all
 .rename_i ho;simp only [execOp,ho];exact qL hR h (hv _) (hv _)
 .rename_i ho;simp only [execOp,ho];exact Ax hR h (hv _) (dW.eK hv _) (dW.eK hv _) (dW.eK hv _)
 .rename_i ho;simp only [execOp,ho];exact qN hR h (hv _)
 .rename_i ho;simp only [execOp,ho];exact z8 hR h (hv _)
 .rename_i ho;simp only [execOp,ho];exact qY hR h (hv _) (hv _)
 .rename_i ho;simp only [execOp,ho];exact zP hR h (hv _) (hv _)
 .rename_i ho;simp only [execOp,ho];exact wB hR h (hv _) (hv _)
 .rename_i ho;simp only [execOp,ho];exact ng hR h (hv _) (hv _) (hv _)
 .rename_i ho;simp only [execOp,ho];exact ng hR h (hv _) (hv _) (hv _)
 .rename_i ho;simp only [execOp,ho];exact zu hR h (hv _)
 .rename_i ho;simp only [execOp,ho];exact BD hR h (hv _)
 .rename_i ho;simp only [execOp,ho];exact pg hR h (hv _)
 .rename_i ho;simp only [execOp,ho];exact vM hR h (hv _)
 .rename_i c ho
  unfold dt at h;simp only at h;split at h
  .rename_i b hc
   simp only [execOp,ho,resolve,hc,invoke,Sem.run_bind,Sem.run_pure,Result.andThen_ok];exact vP hR h (by simpa using bX.eK hv c.args.toList)
  .rename_i hc;simp [iX,ho,hc] at hp
  grind
 .rename_i c ho
  split at h
  .rename_i f hc
   have:=Ad (P:=P) hR h (hv f) (args':=c.args.map a.eval) (by simpa using bX.eK hv c.args.toList);simp only [execOp,ho];simpa [resolve,hc] using this
  .cases h
 .rename_i ho;simp only [execOp,ho];exact zo hR h (hv _)
 .cases h
end Go.Iv
