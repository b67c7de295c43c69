/- The operations, one by one (the fifth part): append. -/
import Derived.Test.YtoiiimbhfdnomaaDoorIvOpsD
namespace Go.Iv
open Go

variable {P : Program} {Γ : Ga} {H : IH} {w : World}

theorem cell?_heap {w w1 : World} (h : w1.heap = w.heap) (a : Addr) : w1.cell? a = w.cell? a := by simp [World.cell?, h]

theorem load_run (hR : Rh Γ H w) {b off n : Nat} {cs : List Value} (hc : H.cellsAt b off n = some cs) :
    ∃ cs' : List Value, VRs Γ w cs cs' ∧ cs'.length = n ∧ ∀ w1 : World, w1.heap = w.heap → (loadCells (Γ.at b off) n).run P w1 = .ok ⟨cs'⟩ w1 := by
  obtain ⟨cs', h1, h2, h3⟩ := hR.cellsAt hc
  refine ⟨cs', h1, h2, fun w1 hw => ?_⟩
  have := run_loadCells_list (P := P) (w := w1) (Γ.at b off) cs' (fun j v hj => by rw [cell?_heap hw]; exact h3 j v hj)
  rw [h2] at this
  exact this

theorem first_run (hR : Rh Γ H w) {size n k : Nat} {x x' : Value} {new : List Value} (h : sliceCells H size n x = some new) (hc : countOf x = some k) (hn : 0 < n) (hnk : n ≤ k) (hx : VR Γ w x x') :
    ∃ new' : List Value, VRs Γ w new new' ∧ (∀ w1 : World, w1.heap = w.heap → (Builtin.firstCells size n x').run P w1 = .ok ⟨new'⟩ w1) ∧ (∀ w1 : World, (Builtin.lenOf x').run P w1 = .ok k w1) := by
  unfold sliceCells at h
  split at h
  · simp [countOf] at hc; omega
  · rename_i b off len cap
    simp only [countOf, Option.some.injEq] at hc
    subst hc
    obtain ⟨cs', h1, h2, h3⟩ := load_run (P := P) hR h
    obtain ⟨b1, o1, e1, hd, hs⟩ := hx.sliceE
    cases e1
    rcases hs with ⟨hcap, hl, a', rfl, ha⟩ | ⟨s, c', a', hcap, rfl, hl, hr⟩
    · obtain rfl := ha.resolve_left (fun x => by omega)
      exact ⟨cs', h1, fun w1 hw => by simp only [Builtin.firstCells]; exact h3 w1 hw, fun w1 => rfl⟩
    · rcases hr with ⟨h0, h0', _⟩ | ⟨rfl, _⟩
      · omega
      · exact ⟨cs', h1, fun w1 hw => by simp only [Builtin.firstCells]; exact h3 w1 hw, fun w1 => rfl⟩
  · rename_i s
    simp only [countOf, Option.some.injEq] at hc
    subst hc
    cases h
    rw [hx.stringE]
    refine ⟨((bl s).take n).map fun c => .int .u8 c.toNat, ?_, fun w1 hw => ?_, fun w1 => rfl⟩
    · generalize (bl s).take n = l
      induction l with
      | nil => exact .nil
      | cons c l ih => exact .cons (.int _ _) ih
    · simp only [Builtin.firstCells, Sem.run_pure, ba_extract]
      congr 1
      apply Array.toList_inj.1
      simp [ba]
  · cases h

theorem isInt_spec {xt : TypeId} (h : isInt P xt = false) : ∃ d, P.underlying xt = some d ∧ ∀ k, d ≠ .int k := by
  unfold isInt at h
  split at h
  · cases h
  · cases h
  · rename_i h1 h2
    cases hu : P.underlying xt with
    | none => exact absurd hu h2
    | some d => exact ⟨d, rfl, fun k e => h1 k (by rw [hu, e])⟩

set_option maxHeartbeats 2000000 in
/-- An append that fits. -/
theorem append_fit {t xt ty e : TypeId} {i : TypeInfo} {ats : Array TypeId} (h0 : ats[0]? = some t) (h1 : ats[1]? = some xt) (hx : isInt P xt = false) (hu : P.underlying t = some (.slice e)) (hi : P.info? e = some i)
    {a : Addr} {sLen sCap n : Nat} {x' : Value} {news : Array Value} (hlen : (Builtin.lenOf x').run P w = .ok n w) (hfit : sLen + n ≤ sCap) (hnew : (Builtin.firstCells i.size n x').run P w = .ok news w) {w' : World}
    (hst : (storeCells (a.add (sLen * i.size)) news.toList).run P w = .ok () w') :
    (Builtin.append_ ats ty #[.slice (some a) sLen sCap, x']).run P w = .ok (.slice (some a) (sLen + n) sCap) w' := by
  obtain ⟨d, hd, hnd⟩ := isInt_spec hx
  cases d <;> first
    | exact absurd rfl (hnd _)
    | simp [Builtin.append_, h0, h1, run_underlying hu, run_underlying hd, run_sizeOf' hi, hlen, hfit, hnew, hst]

set_option maxHeartbeats 2000000 in
/-- An append that grows. -/
theorem append_grow {t xt ty e : TypeId} {i : TypeInfo} {z : Value} {ats : Array TypeId} (h0 : ats[0]? = some t) (h1 : ats[1]? = some xt) (hx : isInt P xt = false) (hu : P.underlying t = some (.slice e)) (hi : P.info? e = some i)
    (hzv : zeroOf P e = some z) {base : Option Addr} {sLen sCap n : Nat} {x' : Value} {news olds : Array Value} (hlen : (Builtin.lenOf x').run P w = .ok n w) (hg : sCap < sLen + n) (hroom : (sLen + n) * (i.bytes + 1) ≤ roomy)
    (hold : (Builtin.firstCells i.size sLen (.slice base sLen sCap)).run P w.drew = .ok olds w.drew) (hnew : (Builtin.firstCells i.size n x').run P w.drew = .ok news w.drew) :
    (Builtin.append_ ats ty #[.slice base sLen sCap, x']).run P w = .ok (.slice (some ⟨w.heap.size, 0, none⟩) (sLen + n) (grownCap w (sLen + n) sCap e))
      (w.drew.alloc (.cells (olds ++ news ++ Builtin.zeroCells z.cells (grownCap w (sLen + n) sCap e - (sLen + n))) e)) := by
  obtain ⟨d, hd, hnd⟩ := isInt_spec hx
  have hr : (sLen + n) * i.bytes + (sLen + n) ≤ 1099511627776 := by rw [← Nat.mul_succ]; exact hroom
  have h63 : ¬ (9223372036854775807 < ((sLen : Int) + (n : Int))) := by omega
  have hcap := nextslicecap_le hg
  have h48 : ¬ (281474976710656 < Builtin.nextslicecap (sLen + n) sCap * i.bytes) := by
    have := Nat.mul_le_mul_right i.bytes hcap
    rw [Nat.mul_assoc] at this
    omega
  have hn : ¬ (sLen + n ≤ sCap) := by omega
  cases d <;> first
    | exact absurd rfl (hnd _)
    | simp [Builtin.append_, h0, h1, run_underlying hu, run_underlying hd, run_sizeOf' hi, hlen, hn, h63, h48, run_typeInfo' hi, Question.forced, hold, hnew, run_zeroValue' hzv, newRow, grownCap]

/-- A new block behind a draw. -/
theorem new_drew (hR : Rh Γ H w) (o : IObj) (o' : Obj) (ho : ObjR (Γ.next H.n (w.heap.size, 0)) (w.drew.alloc o') H.n o) :
    Rh (Γ.next H.n (w.heap.size, 0)) (H.new o) (w.drew.alloc o') ∧ Ext Γ H w (Γ.next H.n (w.heap.size, 0)) (H.new o) (w.drew.alloc o') := by
  obtain ⟨h1, h2⟩ := hR.drew
  obtain ⟨h3, h4⟩ := h1.new o o' ho
  exact ⟨h3, h2.trans h4⟩

theorem grown_good (hR : Rh Γ H w) (fz0 : Nat) {e : TypeId} {i : TypeInfo} {z : Value} (hz : z.cells.size = i.size) {sLen sCap n : Nat} {old new old' new' : List Value} (ho : VRs Γ w old old') (hn : VRs Γ w new new')
    (hlo : old.length = sLen * i.size) (hln : new.length = n * i.size) {s : Sem Value}
    (hs : s.run P w = .ok (.slice (some ⟨w.heap.size, 0, none⟩) (sLen + n) (grownCap w (sLen + n) sCap e)) (w.drew.alloc (.cells (⟨old'⟩ ++ ⟨new'⟩ ++ Builtin.zeroCells z.cells (grownCap w (sLen + n) sCap e - (sLen + n))) e))) :
    Good Γ H w ((asNext s).run P w) (.val (.slice (some ⟨H.n, 0, none⟩) (sLen + n) (unk + i.size)) (H.new (.cells (old ++ new) e fz0 false false))) := by
  have hge := grownCap_ge w (sLen + n) sCap e
  have hn0 : ¬ Γ.dom H.n := fun x => by have := hR.dom _ x; omega
  have hsame : Same w (w.drew.alloc (.cells (⟨old'⟩ ++ ⟨new'⟩ ++ Builtin.zeroCells z.cells (grownCap w (sLen + n) sCap e - (sLen + n))) e)) := (hR.drew.2.same).trans (.alloc _ _)
  have hsize : (⟨old'⟩ ++ ⟨new'⟩ ++ Builtin.zeroCells z.cells (grownCap w (sLen + n) sCap e - (sLen + n)) : Array Value).size = grownCap w (sLen + n) sCap e * i.size := by
    have h1 := ho.length
    have h2 := hn.length
    simp only [Array.size_append, List.size_toArray, size_zeroCells, hz, ← h1, ← h2, hlo, hln, ← Nat.add_mul]
    congr 1
    omega
  have hon := ho.append hn
  obtain ⟨h3, h4⟩ := new_drew hR (.cells (old ++ new) e fz0 false false) (.cells (⟨old'⟩ ++ ⟨new'⟩ ++ Builtin.zeroCells z.cells (grownCap w (sLen + n) sCap e - (sLen + n))) e) (by
    refine ⟨_, 0, 0, by rw [Ga.next_φ]; exact heap_alloc_new (w := w.drew), ?_, ?_, ?_, ?_, fun x => (by cases x)⟩
    · rw [Ga.next_φ, hsize]
      have : (sLen + n) * i.size ≤ grownCap w (sLen + n) sCap e * i.size := Nat.mul_le_mul_right _ hge
      rw [Nat.add_mul] at this
      simp only [List.length_append]
      omega
    · intro j v hj
      obtain ⟨v', a, b⟩ := hon.get hj
      refine ⟨v', ?_, b.mono (Ga.le_next hn0) hsame⟩
      rw [Ga.next_φ]
      have hlt : j < (old' ++ new').length := by
        rcases Nat.lt_or_ge j (old' ++ new').length with x | x
        · exact x
        · rw [List.getElem?_eq_none x] at a; cases a
      have e1 : (⟨old'⟩ ++ ⟨new'⟩ ++ Builtin.zeroCells z.cells (grownCap w (sLen + n) sCap e - (sLen + n)) : Array Value)[0 + j]? = (old' ++ new' ++ (Builtin.zeroCells z.cells (grownCap w (sLen + n) sCap e - (sLen + n))).toList)[j]? := by
        rw [← Array.getElem?_toList]; simp
      rw [e1, List.getElem?_append_left hlt, a]
    · intro x; cases x
    · exact fun _ => ⟨Nat.le_refl _, fun j a b => by omega⟩)
  refine ⟨_, _, _, run_asNext hs, ?_, h3, h4⟩
  refine .sliceU (.inr rfl) hge (.inr ⟨by simp [Ga.at, Ga.next_φ], ⟨_, e, (0, 0), heap_alloc_new (w := w.drew), ?_⟩⟩)
  rw [hsize]; simp

/-- An append of unknown room that lies behind what was there. -/
theorem append_there (hR : Rh Γ H w) {b off len c' n size : Nat} {cs : List Value} {e : TypeId} {fz : Nat} {ex sh : Bool} (hb : H.get b = some (.cells cs e fz ex sh)) (hro : roN ≤ b) (hle : off + len * size ≤ cs.length) (hsh : sh = false) (hfz : fz ≤ off + len * size)
    {new new' : List Value} (hnew : VRs Γ w new new') (hln : new.length = n * size) (hone : new.all one = true) (hfit : len + n ≤ c') (hroom : Room w (Γ.at b off) (c' * size)) (_hlc : len ≤ c') (_hd : Γ.dom b) {s : Sem Value}
    (hs : ∀ w1, (storeCells (Γ.at b (off + len * size)) new').run P w = .ok () w1 → s.run P w = .ok (.slice (some (Γ.at b off)) (len + n) c') w1) :
    Good Γ H w ((asNext s).run P w) (.val (.slice (some ⟨H.n, 0, none⟩) (len + n) (unk + size)) ((H.del b).new (.cells (((cs.drop off).take (len * size)) ++ new) e (fz - off) false false))) := by
  subst hsh
  obtain ⟨cs', lo, hi, hr⟩ := hR.obj b _ hb
  obtain ⟨cs2, e2, f2, hb2, hsz2⟩ := hroom
  have hb2' : w.heap[(Γ.φ b).1]? = some (.cells cs2 e2 f2) := hb2
  rw [hr.block] at hb2'
  cases hb2'
  have hroom2 : (Γ.φ b).2 + off + c' * size ≤ cs'.size := by simpa [Ga.at] using hsz2
  have hmul : (len + n) * size ≤ c' * size := Nat.mul_le_mul_right _ hfit
  rw [Nat.add_mul] at hmul
  have hlen := hnew.length
  have hn0 : ¬ Γ.dom H.n := fun x => by have := hR.dom _ x; omega
  have hfr : ∀ j, lo ≤ j → j < hi → j < (Γ.φ b).2 + fz := fun j h1 h2 => ((hr.frozen hro).2 j h1 h2).resolve_right (by simp)
  have hone' : ∀ v' ∈ new', v'.oneCell' = true := by
    intro v' hv'
    obtain ⟨k, hk, rfl⟩ := List.mem_iff_getElem.1 hv'
    have hk' : k < new.length := by omega
    obtain ⟨x, h1, h2⟩ := hnew.get (List.getElem?_eq_getElem hk')
    rw [List.getElem?_eq_getElem hk] at h1
    cases h1
    exact h2.one (List.all_eq_true.1 hone _ (List.getElem_mem _))
  have hrun := run_storeCells (P := P) (Γ.φ b).1 ((Γ.φ b).2 + (off + len * size)) new' 0 w cs' e lo hi hr.block (by omega) (fun j h1 h2 ⟨h3, h4⟩ => by have := hfr j h3 h4; omega) hone'
  have hsame : ∀ w1, (w1 = w ∨ w1 = lay w (Γ.φ b).1 (.cells ⟨setRun cs'.toList ((Γ.φ b).2 + (off + len * size) + 0) new'⟩ e (lo, hi))) → Same w w1 := by
    rintro w1 (rfl | rfl)
    · exact .refl _
    · exact lay_same hr.block (by simp [setRun_length])
  have hw1 : ∃ w1, (storeCells (Γ.at b (off + len * size)) new').run P w = .ok () w1 ∧ (w1 = w ∨ w1 = lay w (Γ.φ b).1 (.cells ⟨setRun cs'.toList ((Γ.φ b).2 + (off + len * size) + 0) new'⟩ e (lo, hi))) ∧
      w1.heap[(Γ.φ b).1]? = some (.cells ⟨setRun cs'.toList ((Γ.φ b).2 + (off + len * size)) new'⟩ e (lo, hi)) := by
    by_cases hne : new' = []
    · rw [if_pos hne] at hrun
      exact ⟨w, hrun, .inl rfl, by subst hne; simpa [setRun] using hr.block⟩
    · rw [if_neg hne] at hrun
      exact ⟨_, hrun, .inr rfl, by simpa using lay_heap_same hr.block⟩
  obtain ⟨w1, hst, hwor, hblk⟩ := hw1
  have hs1 := hsame w1 hwor
  have hother : ∀ x, x ≠ (Γ.φ b).1 → w1.heap[x]? = w.heap[x]? := by
    rcases hwor with rfl | rfl
    · exact fun _ _ => rfl
    · exact fun x hx => lay_heap_other hx
  have hsz1 : w1.heap.size = w.heap.size := by rcases hwor with rfl | rfl <;> simp
  have hos : w1.os = w.os ∧ w1.tape = w.tape ∧ w1.output = w.output := by rcases hwor with rfl | rfl <;> exact ⟨rfl, rfl, rfl⟩
  have hdel := hR.del b
  have hlive : ∀ x y, (H.del b).get x = some y → H.get x = some y ∧ x ≠ b := by
    intro x y hx
    rw [IH.get_del] at hx
    by_cases e1 : x = b
    · rw [if_pos e1] at hx; cases hx
    · rw [if_neg e1] at hx; exact ⟨hx, e1⟩
  have hp : ∀ x y, (H.del b).get x = some y → (Γ.φ x).1 ≠ (Γ.φ b).1 := fun x y hx e1 => (hlive x y hx).2 (hR.inj x b y _ (hlive x y hx).1 hb e1)
  have hobj : ObjR (Γ.next (H.del b).n ((Γ.φ b).1, (Γ.φ b).2 + off)) w1 (H.del b).n (.cells (((cs.drop off).take (len * size)) ++ new) e (fz - off) false false) := by
    refine ⟨⟨setRun cs'.toList ((Γ.φ b).2 + (off + len * size)) new'⟩, lo, hi, by rw [Ga.next_φ]; exact hblk, ?_, ?_, fun x => (by cases x), ?_, fun x => (by cases x)⟩
    · rw [Ga.next_φ]
      simp [setRun_length]
      omega
    · intro j v hj
      rw [Ga.next_φ]
      have hmono := Ga.le_next (p := ((Γ.φ b).1, (Γ.φ b).2 + off)) hn0
      have hget : ∀ q : Nat, (⟨setRun cs'.toList ((Γ.φ b).2 + (off + len * size)) new'⟩ : Array Value)[q]? = (setRun cs'.toList ((Γ.φ b).2 + (off + len * size)) new')[q]? := fun q => by rw [← Array.getElem?_toList]
      rw [hget, setRun_get]
      by_cases hjl : j < len * size
      · rw [List.getElem?_append_left (by simp; omega), List.getElem?_take_of_lt hjl, List.getElem?_drop] at hj
        obtain ⟨v', h1, h2⟩ := hr.cell _ _ hj
        refine ⟨v', ?_, h2.mono hmono hs1⟩
        rw [if_neg (by simp only; omega), Array.getElem?_toList, ← h1]
        congr 1
        simp only
        omega
      · rw [List.getElem?_append_right (by simp; omega)] at hj
        have hl2 : (List.take (len * size) (List.drop off cs)).length = len * size := by simp; omega
        rw [hl2] at hj
        obtain ⟨v', h1, h2⟩ := hnew.get hj
        have hlt : j - len * size < new'.length := by
          rcases Nat.lt_or_ge (j - len * size) new'.length with x | x
          · exact x
          · rw [List.getElem?_eq_none x] at h1; cases h1
        refine ⟨v', ?_, h2.mono hmono hs1⟩
        rw [if_pos ⟨by simp only; omega, by simp only; omega, by simp only [Array.length_toList]; omega⟩, ← h1]
        congr 1
        simp only
        omega
    · intro _
      refine ⟨(hr.frozen hro).1, fun j h1 h2 => ?_⟩
      rw [Ga.next_φ]
      have := hfr j h1 h2
      left
      simp only
      omega
  obtain ⟨h3, h4, h5⟩ := hdel.1.take (w' := w1) (.cells (((cs.drop off).take (len * size)) ++ new) e (fz - off) false false) ((Γ.φ b).1, (Γ.φ b).2 + off) hp hs1 hother hobj
  refine ⟨_, w1, _, run_asNext (hs w1 hst), ?_, h3, ?_⟩
  · have hat : (Γ.next (H.del b).n ((Γ.φ b).1, (Γ.φ b).2 + off)).at H.n 0 = Γ.at b off := by
      have : (Γ.next (H.del b).n ((Γ.φ b).1, (Γ.φ b).2 + off)).φ H.n = ((Γ.φ b).1, (Γ.φ b).2 + off) := Ga.next_φ _ _ _
      simp [Ga.at]
    refine .sliceU (.inr rfl) hfit (.inr ⟨hat.symm, ?_⟩)
    exact ⟨_, e, (lo, hi), hblk, by simp [setRun_length, Ga.at]; omega⟩
  · refine ⟨by simp, fun i hi' => h4 i (by simpa using hi'), ?_, Nat.le_of_eq hsz1.symm, hos.1, hos.2.1, hos.2.2, hs1, ?_, ?_, fun i hi' y hy => ⟨y, by
      rw [IH.get_new, if_neg (by have := hR.ro; simp; omega)] at hy
      exact (hlive i y hy).1⟩⟩
    · intro i
      simp only [Ga.next, IH.n_new, IH.n_del]
      constructor
      · rintro (x | x)
        · exact .inl x
        · exact .inr (by omega)
      · rintro (x | x)
        · exact .inl x
        · exact .inr (by omega)
    · intro x _ hx
      exact hother x fun e1 => hx ⟨b, _, hro, hb, e1.symm⟩
    · rintro x _ ⟨i, y, hi', hy, e1⟩
      rw [IH.get_new] at hy
      by_cases e2 : i = (H.del b).n
      · subst e2
        rw [Ga.next_φ] at e1
        exact ⟨b, _, hro, hb, e1⟩
      · rw [if_neg e2] at hy
        obtain ⟨hy', _⟩ := hlive i y hy
        refine ⟨i, y, hi', hy', ?_⟩
        rw [← e1, h5.φ i (hR.live i y hy')]

theorem pair_args {s x : Value} {args : Array Value} (h : VRs Γ w [s, x] args.toList) : ∃ s' x', args = #[s', x'] ∧ VR Γ w s s' ∧ VR Γ w x x' := by
  obtain ⟨l⟩ := args
  cases h with
  | cons h1 t => cases t with
    | cons h2 t => cases t; exact ⟨_, _, rfl, h1, h2⟩

theorem evAppendTo_good (hR : Rh Γ H w) {t xt ty e : TypeId} {i : TypeInfo} {z : Value} {ats : Array TypeId} (h0 : ats[0]? = some t) (h1 : ats[1]? = some xt) (hxt : isInt P xt = false) (hu : P.underlying t = some (.slice e)) (hi : P.info? e = some i)
    (hzv : zeroOf P e = some z) (hzs : z.cells.size = i.size) {n : Nat} {s x s' x' : Value} {new : List Value} {res : OpRes} (hsl : sliceCells H i.size n x = some new) (hct : countOf x = some n) (hn : 0 < n) (hsz : 0 < i.size)
    (hln : new.length = n * i.size) (hone : new.all one = true) (h : evAppendTo H e i.size i.bytes n new s = some res) (hs : VR Γ w s s') (hx : VR Γ w x x') :
    Good Γ H w ((asNext (Builtin.append_ ats ty #[s', x'])).run P w) res := by
  obtain ⟨new', hnew, hfirst, hlen⟩ := first_run (P := P) hR hsl hct hn (Nat.le_refl _) hx
  unfold evAppendTo at h
  split at h
  · split at h
    · rename_i hroom
      cases h
      obtain ⟨_, _, rfl⟩ := hs.snilE
      have hrun := append_grow (ty := ty) (base := none) (sLen := 0) (sCap := 0) (n := n) (olds := #[]) (w := w) h0 h1 hxt hu hi hzv (hlen w) (by omega) (by simpa using hroom) rfl (hfirst w.drew rfl)
      have := grown_good (s := Builtin.append_ ats ty #[.slice none 0 0, x']) (sLen := 0) (sCap := 0) (old := []) (old' := []) hR 0 hzs .nil hnew (by simp) hln hrun
      simpa using this
    · cases h
  · rename_i b off len cap
    obtain ⟨b1, o1, e1, hd, hsr⟩ := hs.sliceE
    cases e1
    split at h
    · rename_i hroom
      split at h
      · rename_i hcap
        split at h
        · rename_i cs e' fz ex sh hb
          split at h
          · rename_i hcond
            cases h
            simp only [Bool.and_eq_true, decide_eq_true_eq, beq_iff_eq, Bool.not_eq_true'] at hcond
            obtain ⟨⟨⟨⟨⟨hro, hle⟩, rfl⟩, hsh⟩, hfz⟩, hce⟩ := hcond
            rcases hsr with ⟨hc, _⟩ | ⟨s1, c', a', hce', rfl, hlc, hr⟩
            · omega
            · obtain rfl : s1 = i.size := by omega
              subst hce'
              have hca : H.cellsAt b off (len * i.size) = some ((cs.drop off).take (len * i.size)) := by
                simp only [IH.cellsAt, hb]; rw [if_pos hle]
              by_cases hg : c' < len + n
              · -- a new array is made
                have hdel := hR.del b
                have hold : ∃ old' : List Value, VRs Γ w ((cs.drop off).take (len * i.size)) old' ∧ (Builtin.firstCells i.size len (.slice (some a') len c')).run P w.drew = .ok ⟨old'⟩ w.drew := by
                  by_cases hl0 : len = 0
                  · subst hl0
                    refine ⟨[], by simp; exact .nil, ?_⟩
                    simp [Builtin.firstCells, loadCells, loadCellsFrom]
                  · rcases hr with ⟨hc0, hl0', _⟩ | ⟨rfl, _⟩
                    · omega
                    · obtain ⟨old', h3, _, h4⟩ := load_run (P := P) hR hca
                      exact ⟨old', h3, by simp only [Builtin.firstCells]; exact h4 w.drew rfl⟩
                obtain ⟨old', h3, h4⟩ := hold
                have hrun := append_grow (ty := ty) h0 h1 hxt hu hi hzv (hlen w) hg hroom h4 (hfirst w.drew rfl)
                have h5 := grown_good (s := Builtin.append_ ats ty #[.slice (some a') len c', x']) hdel.1 (fz - off) hzs h3 hnew (by simp; omega) hln hrun
                obtain ⟨v', w', Γ', e5, h6, h7, h8⟩ := h5
                exact ⟨v', w', Γ', e5, h6, h7, hdel.2.trans h8⟩
              · -- it lies behind what was there
                rcases hr with ⟨hc0, hl0', _⟩ | ⟨rfl, hroom'⟩
                · omega
                · exact append_there hR hb hro hle hsh hfz hnew hln hone (by omega) hroom' hlc hd (fun w1 hst => append_fit (ty := ty) h0 h1 hxt hu hi (hlen w) (by omega) (hfirst w rfl) (w' := w1) (by rw [at_add]; exact hst))
          · cases h
        · cases h
      · split at h
        · rename_i hcap hfit
          split at h
          · rename_i H' hst
            cases h
            rcases hsr with ⟨hc, hlc, a', rfl, ha⟩ | ⟨s1, c', a', hce', rfl, hlc, hr⟩
            · obtain rfl := ha.resolve_left (fun x => by omega)
              obtain ⟨w', h3, h4, h5⟩ := stCells_run (P := P) hR hst hnew
              refine ⟨_, w', Γ, run_asNext (append_fit (ty := ty) h0 h1 hxt hu hi (hlen w) hfit (hfirst w rfl) (w' := w') (by rw [at_add]; exact h3)), ?_, h4, h5⟩
              exact .slice hd (by omega) hfit (.inr rfl)
            · omega
          · cases h
        · rename_i hcap hfit
          split at h
          · rename_i old hold
            cases h
            rcases hsr with ⟨hc, hlc, a', rfl, ha⟩ | ⟨s1, c', a', hce', rfl, hlc, hr⟩
            · have holdr : ∃ old' : List Value, VRs Γ w old old' ∧ (Builtin.firstCells i.size len (.slice (some a') len cap)).run P w.drew = .ok ⟨old'⟩ w.drew ∧ old.length = len * i.size := by
                by_cases hl0 : len = 0
                · subst hl0
                  have : old = [] := by
                    obtain ⟨cs', h3, h4, _⟩ := hR.cellsAt hold
                    have := h3.length
                    simp at h4
                    subst h4
                    simpa using this
                  subst this
                  exact ⟨[], .nil, by simp [Builtin.firstCells, loadCells, loadCellsFrom], by simp⟩
                · obtain rfl := ha.resolve_left (fun x => by omega)
                  obtain ⟨old', h3, h4', h4⟩ := load_run (P := P) hR hold
                  exact ⟨old', h3, by simp only [Builtin.firstCells]; exact h4 w.drew rfl, h3.length.trans h4'⟩
              obtain ⟨old', h3, h4, h5⟩ := holdr
              have hrun := append_grow (ty := ty) h0 h1 hxt hu hi hzv (hlen w) (by omega) hroom h4 (hfirst w.drew rfl)
              exact grown_good (s := Builtin.append_ ats ty #[.slice (some a') len cap, x']) hR 0 hzs h3 hnew h5 hln hrun
            · omega
          · cases h
    · cases h
  · cases h

end Go.Iv
