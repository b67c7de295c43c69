/- The operations: what the ideal evaluator answers is what the model's operation gives in every related world. -/
import Derived.Test.YtoiiimbhfdnomaaDoorIvRel
import Derived.Laws.Cells
namespace Go.Iv
open Go

variable {P : Program} {Γ : Ga} {H : IH} {w : World}

/-! ### Types -/
theorem run_typeInfo' {t : TypeId} {i : TypeInfo} (h : P.info? t = some i) (w : World) : (typeInfo t).run P w = .ok i w := by
  simp [typeInfo, h]
theorem run_sizeOf' {t : TypeId} {i : TypeInfo} (h : P.info? t = some i) (w : World) : (sizeOf t).run P w = .ok i.size w := by
  simp [sizeOf, run_typeInfo' h]
theorem run_zeroValue' {t : TypeId} {z : Value} (h : zeroOf P t = some z) (w : World) : (zeroValue t).run P w = .ok z w := by
  unfold zeroOf at h
  split at h
  · rename_i i hi
    split at h
    · rename_i z' hz
      split at h
      · cases h; simp [zeroValue, run_typeInfo' hi, hz]
      · cases h
    · cases h
  · cases h
theorem zeroOf_free {t : TypeId} {z : Value} (h : zeroOf P t = some z) : free z = true := by
  unfold zeroOf at h
  split at h
  · split at h
    · split at h
      · rename_i hf; cases h; exact hf
      · cases h
    · cases h
  · cases h
theorem run_isAgg' {t : TypeId} {b : Bool} (h : isAggB P t = some b) (w : World) : (isAgg t).run P w = .ok b w := by
  unfold isAggB at h
  cases hu : P.underlying t with
  | none => simp [hu] at h
  | some d =>
    simp only [isAgg, Sem.run_bind, run_underlying hu, Result.andThen_ok]
    cases d <;> simp_all
theorem elemSize_spec {t e : TypeId} {i : TypeInfo} (h : elemSize P t = some (e, i)) : P.underlying t = some (.slice e) ∧ P.info? e = some i := by
  unfold elemSize at h
  split at h
  · rename_i e' hu
    split at h
    · rename_i i' hi
      simp only [Option.some.injEq, Prod.mk.injEq] at h
      obtain ⟨rfl, rfl⟩ := h
      exact ⟨hu, hi⟩
    · cases h
  · cases h

/-! ### Operands -/
theorem VR.opd (hR : Rh Γ H w) {fi : FI} {T : En} {a : Act} (hT : TR Γ w fi T a.tmps) (x : Operand) : VR Γ w (Iv.opd fi T x) (a.eval x) := by
  cases x with
  | tmp t => exact hT.get t
  | const v =>
    simp only [Iv.opd, Act.eval]
    split
    · rename_i h; exact .of_free h
    · exact .poison _
  | global g =>
    simp only [Iv.opd, Act.eval]
    split
    · rename_i h
      have hg := hR.glob g h
      have := VR.ptr (w := w) (o := 0) hg.1
      simpa [Ga.at, hg.2] using this
    · exact .poison _
  | func f => exact .func rfl .nil .nil

/-- What an operation has given. -/
def Good (Γ : Ga) (H : IH) (w : World) (r : Result Next) : OpRes → Prop
  | .val v H' => ∃ v' w' Γ', r = .ok (.value v') w' ∧ VR Γ' w' v v' ∧ Rh Γ' H' w' ∧ Ext Γ H w Γ' H' w'
  | .skip H' => ∃ w' Γ', r = .ok .skip w' ∧ Rh Γ' H' w' ∧ Ext Γ H w Γ' H' w'
  | .panic v H' => ∃ v' w' Γ', r = .halt (.panic v') w' ∧ VR Γ' w' v v' ∧ Rh Γ' H' w' ∧ Ext Γ H w Γ' H' w'
  | .defer d H' => H' = H ∧ ∃ fn c c' as as', plainFn fn = true ∧ d = { target := .fn fn c, args := as } ∧ r = .ok (.defer { target := .fn fn c', args := as' }) w ∧ VRs Γ w c.toList c'.toList ∧ VRs Γ w as.toList as'.toList

theorem good_same (hR : Rh Γ H w) {v v' : Value} (h : VR Γ w v v') {r : Result Next} (hr : r = .ok (.value v') w) : Good Γ H w r (.val v H) :=
  ⟨v', w, Γ, hr, h, hR, .refl Γ H w⟩

theorem good_pure (hR : Rh Γ H w) {v v' : Value} (h : VR Γ w v v') {s : Sem Value} (hs : s.run P w = .ok v' w) :
    Good Γ H w ((do pure (.value (← s)) : Sem Next).run P w) (.val v H) :=
  good_same hR h (by simp [hs])

theorem runP_run {α : Type} {s : Sem α} {a : α} (h : runP P s = some a) (w : World) : s.run P w = .ok a w := by
  induction s with
  | pure b => simp [runP] at h; simp [Sem.run, h]
  | program k ih => simp only [runP] at h; simp only [Sem.run]; exact ih P h
  | _ => simp [runP] at h

/-! ### Loads and stores -/
theorem cells_get {b : Nat} {cs : List Value} {e : TypeId} {fz : Nat} {ex sh : Bool} (hR : Rh Γ H w) (hb : H.get b = some (.cells cs e fz ex sh)) {i : Nat} {v : Value} (hi : cs[i]? = some v) :
    ∃ v', w.cell? (Γ.at b i) = some v' ∧ VR Γ w v v' := by
  obtain ⟨cs', lo, hi', hr⟩ := hR.obj b _ hb
  obtain ⟨v', h1, h2⟩ := hr.cell i v hi
  refine ⟨v', ?_, h2⟩
  simp only [Ga.at, World.cell?, hr.block]
  simpa using h1

theorem ldVar_run (hR : Rh Γ H w) {t : TypeId} {b off : Nat} {v : Value} (h : ldVar P H t b off = some v) :
    ∃ v', (loadVar t (Γ.at b off)).run P w = .ok v' w ∧ VR Γ w v v' := by
  unfold ldVar at h
  split at h
  · rename_i ha
    split at h
    · rename_i i hi
      split at h
      · rename_i cs hc
        simp only [Option.some.injEq] at h
        subst h
        obtain ⟨cs', h1, h2, h3⟩ := hR.cellsAt hc
        refine ⟨.agg ⟨cs'⟩, ?_, .agg h1⟩
        have := run_loadCells_list (P := P) (w := w) (Γ.at b off) cs' h3
        rw [h2] at this
        simp [loadVar, run_isAgg' ha, run_sizeOf' hi, this]
      · cases h
    · cases h
  · rename_i ha
    split at h
    · rename_i cs e fz ex sh hb
      obtain ⟨v', h1, h2⟩ := cells_get hR hb h
      exact ⟨v', by simp [loadVar, run_isAgg' ha, h1], h2⟩
    · cases h
  · cases h

/-- A world one of whose blocks has been laid anew. -/
def lay (w : World) (b : Nat) (o : Obj) : World := { w with heap := w.heap.setIfInBounds b o }

theorem lay_heap_same {w : World} {b : Nat} {o x : Obj} (h : w.heap[b]? = some x) : (lay w b o).heap[b]? = some o := by
  have := (Array.getElem?_eq_some_iff.1 h).1
  simp [lay, this]
theorem lay_heap_other {w : World} {b c : Nat} {o : Obj} (h : c ≠ b) : (lay w b o).heap[c]? = w.heap[c]? := by
  simp only [lay]; rw [Array.getElem?_setIfInBounds_ne (Ne.symm h)]
@[simp] theorem lay_size (w : World) (b : Nat) (o : Obj) : (lay w b o).heap.size = w.heap.size := by simp [lay]
theorem lay_lay (w : World) (b : Nat) (o o' : Obj) : lay (lay w b o) b o' = lay w b o' := by
  simp [lay]

theorem lay_same {w : World} {b : Nat} {cs cs' : Array Value} {e : TypeId} {f f' : Nat × Nat} (h : w.heap[b]? = some (.cells cs e f)) (hs : cs'.size = cs.size) : Same w (lay w b (.cells cs' e f')) := by
  intro x ds d g hx
  by_cases e1 : x = b
  · subst e1
    rw [h] at hx; cases hx
    exact ⟨cs', f', lay_heap_same h, hs⟩
  · exact ⟨ds, g, (lay_heap_other e1).trans hx, rfl⟩
theorem lay_same' {w : World} {b : Nat} {o o' : Obj} (h : w.heap[b]? = some o) (hn : ∀ cs e f, o ≠ .cells cs e f) : Same w (lay w b o') := by
  intro x ds d g hx
  by_cases e1 : x = b
  · subst e1; rw [h] at hx; cases hx; exact absurd rfl (hn ds d g)
  · exact ⟨ds, g, (lay_heap_other e1).trans hx, rfl⟩

theorem setCell_lay {w : World} {B o : Nat} {v : Value} {cs : Array Value} {e : TypeId} {f : Nat × Nat} (h : w.heap[B]? = some (.cells cs e f)) :
    w.setCell ⟨B, o, none⟩ v = lay w B (.cells (cs.setIfInBounds o v) e f) := by
  obtain ⟨hlt, hb⟩ := Array.getElem?_eq_some_iff.1 h
  simp only [World.setCell, lay]
  congr 1
  apply Array.ext
  · simp
  · intro i h1 h2
    rw [Array.getElem_modify, Array.getElem_setIfInBounds]
    · by_cases e1 : B = i
      · subst e1; simp [hb]
      · simp [e1]
    · simpa using h1

theorem setRun_length (cs : List Value) (off : Nat) (vs : List Value) : (setRun cs off vs).length = cs.length := by
  induction vs generalizing cs off with
  | nil => rfl
  | cons v vs ih => simp [setRun, ih]

theorem setRun_get (cs : List Value) (off : Nat) (vs : List Value) (j : Nat) :
    (setRun cs off vs)[j]? = if off ≤ j ∧ j < off + vs.length ∧ j < cs.length then vs[j - off]? else cs[j]? := by
  induction vs generalizing cs off with
  | nil => rw [if_neg (by simp; omega)]; rfl
  | cons v vs ih =>
    simp only [setRun, ih, List.length_set, List.length_cons]
    by_cases h1 : off = j
    · subst h1
      rw [if_neg (by omega)]
      by_cases h2 : off < cs.length
      · rw [if_pos ⟨Nat.le_refl _, by omega, h2⟩]; simp [h2]
      · rw [if_neg (by omega)]; simp [h2]
    · by_cases h2 : off + 1 ≤ j ∧ j < off + 1 + vs.length ∧ j < cs.length
      · rw [if_pos h2, if_pos ⟨by omega, by omega, h2.2.2⟩]
        have : j - off = (j - (off + 1)) + 1 := by omega
        rw [this]; rfl
      · rw [if_neg h2, if_neg (by omega), List.getElem?_set_ne h1]

theorem run_storeCells (B o : Nat) : ∀ (vs : List Value) (i : Nat) (w : World) (cs : Array Value) (e : TypeId) (lo hi : Nat), w.heap[B]? = some (.cells cs e (lo, hi)) → o + i + vs.length ≤ cs.size →
    (∀ j, o + i ≤ j → j < o + i + vs.length → ¬ (lo ≤ j ∧ j < hi)) → (∀ v ∈ vs, v.oneCell' = true) →
    (storeCells ⟨B, o, none⟩ vs i).run P w = .ok () (if vs = [] then w else lay w B (.cells ⟨setRun cs.toList (o + i) vs⟩ e (lo, hi))) := by
  intro vs
  induction vs with
  | nil => intro i w cs e lo hi _ _ _ _; simp [storeCells]
  | cons v vs ih =>
    intro i w cs e lo hi hb hsz hfr hone
    have hi' : o + i < cs.size := by simp at hsz; omega
    have hadd : (⟨B, o, none⟩ : Addr).add i = ⟨B, o + i, none⟩ := by simp only [Addr.add]; split <;> simp_all
    have hcell : w.cell? ⟨B, o + i, none⟩ = some cs[o + i] := by simp [World.cell?, hb, hi']
    have hfz : w.frozen? ⟨B, o + i, none⟩ = false := by
      have := hfr (o + i) (Nat.le_refl _) (by simp)
      simp only [World.frozen?, hb]
      simp only [Bool.and_eq_false_iff, decide_eq_false_iff_not]
      omega
    have hst := run_store P w ⟨B, o + i, none⟩ v .plain (hone v (by simp))
    simp only [hcell, hfz, Bool.false_eq_true, if_false] at hst
    simp only [storeCells, hadd, Sem.run_bind, hst, Result.andThen_ok]
    have hlay := setCell_lay (o := o + i) (v := v) hb
    rw [hlay]
    have h2 := ih (i + 1) (lay w B (.cells (cs.setIfInBounds (o + i) v) e (lo, hi))) (cs.setIfInBounds (o + i) v) e lo hi (lay_heap_same hb) (by simp at hsz ⊢; omega)
      (fun j a b => hfr j (by omega) (by simp; omega)) (fun x hx => hone x (by simp [hx]))
    rw [h2]
    simp only [List.cons_ne_nil, if_false, setRun]
    congr 1
    have hset : cs.setIfInBounds (o + i) v = ⟨cs.toList.set (o + i) v⟩ := by apply Array.toList_inj.1; simp
    by_cases hv : vs = []
    · subst hv; simp [setRun, hset]
    · rw [if_neg hv, lay_lay]
      simp [Nat.add_assoc]

theorem setRun_rel {Γ : Ga} {w : World} {cs : List Value} {cs' : Array Value} {base off : Nat} {vs vs' : List Value} (hr : base + cs.length ≤ cs'.size)
    (hc : ∀ (i : Nat) (v : Value), cs[i]? = some v → ∃ v', cs'[base + i]? = some v' ∧ VR Γ w v v') (hv : VRs Γ w vs vs') :
    ∀ (i : Nat) (v : Value), (setRun cs off vs)[i]? = some v → ∃ v', (setRun cs'.toList (base + off) vs')[base + i]? = some v' ∧ VR Γ w v v' := by
  intro i v hi
  have hlen := hv.length
  rw [setRun_get] at hi
  rw [setRun_get]
  by_cases h : off ≤ i ∧ i < off + vs.length ∧ i < cs.length
  · rw [if_pos h] at hi
    obtain ⟨v', h1, h2⟩ := hv.get hi
    refine ⟨v', ?_, h2⟩
    rw [if_pos ⟨by omega, by omega, by simp; omega⟩]
    rw [← h1]; congr 1; omega
  · rw [if_neg h] at hi
    obtain ⟨v', h1, h2⟩ := hc i v hi
    refine ⟨v', ?_, h2⟩
    have hlt : i < cs.length := by
      rcases Nat.lt_or_ge i cs.length with x | x
      · exact x
      · rw [List.getElem?_eq_none x] at hi; cases hi
    rw [if_neg (by omega)]
    simpa using h1

theorem stCells_run (hR : Rh Γ H w) {b off : Nat} {vs vs' : List Value} {H' : IH} (h : H.stCells b off vs = some H') (hv : VRs Γ w vs vs') :
    ∃ w', (storeCells (Γ.at b off) vs').run P w = .ok () w' ∧ Rh Γ H' w' ∧ Ext Γ H w Γ H' w' := by
  unfold IH.stCells at h
  split at h
  · rename_i he
    simp only [Option.some.injEq] at h
    subst h
    have : vs = [] := by simpa using he
    subst this
    cases hv
    exact ⟨w, by simp [storeCells], hR, .refl Γ H w⟩
  · rename_i he
    split at h
    · rename_i cs e fz ex sh hb
      split at h
      · rename_i hcond
        simp only [Option.some.injEq] at h
        subst h
        simp only [Bool.and_eq_true, decide_eq_true_eq, List.all_eq_true] at hcond
        obtain ⟨⟨⟨hro, hfz⟩, hle⟩, hone⟩ := hcond
        obtain ⟨cs', lo, hi, hr⟩ := hR.obj b _ hb
        have hlen := hv.length
        have hne : vs' ≠ [] := by
          rintro rfl
          simp at hlen
          simp [hlen] at he
        have hrun := run_storeCells (P := P) (Γ.φ b).1 ((Γ.φ b).2 + off) vs' 0 w cs' e lo hi hr.block (by have := hr.room; omega)
          (fun j h1 h2 ⟨h3, h4⟩ => by
            rcases (hr.frozen hro).2 j h3 h4 with x | ⟨_, x⟩
            · omega
            · have := hr.room; omega)
          (fun v' hv' => by
            obtain ⟨k, hk, rfl⟩ := List.mem_iff_getElem.1 hv'
            have hk' : k < vs.length := by omega
            obtain ⟨x, h1, h2⟩ := hv.get (List.getElem?_eq_getElem hk')
            rw [List.getElem?_eq_getElem hk] at h1
            cases h1
            exact h2.one (hone _ (List.getElem_mem _)))
        rw [if_neg hne] at hrun
        have hs := lay_same (cs' := ⟨setRun cs'.toList ((Γ.φ b).2 + off + 0) vs'⟩) (f' := (lo, hi)) hr.block (by simp [setRun_length])
        refine ⟨_, hrun, ?_⟩
        refine hR.turn _ hb hro (by simp) rfl rfl rfl hs (fun x hx => lay_heap_other hx) ?_
        refine ⟨⟨setRun cs'.toList ((Γ.φ b).2 + off + 0) vs'⟩, lo, hi, lay_heap_same hr.block, ?_, ?_, ?_, ?_, hr.base0⟩
        · have := hr.room; simp [setRun_length]; omega
        · intro i v hi
          obtain ⟨v', h1, h2⟩ := setRun_rel hr.room hr.cell hv i v hi
          exact ⟨v', by simpa using h1, h2.mono (.refl Γ) hs⟩
        · intro hx; have := hr.exact_ hx; simp [setRun_length, this]
        · intro h0
          refine ⟨(hr.frozen h0).1, fun j h1 h2 => ?_⟩
          have := (hr.frozen h0).2 j h1 h2
          simpa [setRun_length] using this
      · cases h
    · cases h

theorem stVar_run (hR : Rh Γ H w) {t : TypeId} {b off : Nat} {v v' : Value} {H' : IH} (h : stVar P H t b off v = some H') (hv : VR Γ w v v') :
    ∃ w', (storeVar t (Γ.at b off) v').run P w = .ok () w' ∧ Rh Γ H' w' ∧ Ext Γ H w Γ H' w' := by
  unfold stVar at h
  split at h
  · rename_i i hi
    split at h
    · rename_i hsz
      have hne : v ≠ Iv.poison := by
        rintro rfl
        unfold IH.stCells at h
        simp only [Iv.poison, Value.cells, List.isEmpty_cons, Bool.false_eq_true, if_false, List.all_cons, one, Bool.false_and, Bool.and_false] at h
        split at h <;> simp at h
      have hc := hv.cells hne
      obtain ⟨w', h1, h2, h3⟩ := stCells_run (P := P) hR h hc
      refine ⟨w', ?_, h2, h3⟩
      have hsz' : v'.cells.size = i.size := by rw [← hsz]; have := hc.length; simpa using this.symm
      simp [storeVar, run_sizeOf' hi, hsz', h1]
    · cases h
  · cases h

/-- A new block of cells. -/
theorem newCells_run (hR : Rh Γ H w) (e : TypeId) {cs : List Value} {cs' : Array Value} (h : VRs Γ w cs cs'.toList) :
    Rh (Γ.next H.n (w.heap.size, 0)) (newCells H e cs) (w.alloc (.cells cs' e)) ∧ Ext Γ H w (Γ.next H.n (w.heap.size, 0)) (newCells H e cs) (w.alloc (.cells cs' e)) := by
  have hn : ¬ Γ.dom H.n := fun x => by have := hR.dom _ x; omega
  refine hR.new _ _ ⟨cs', 0, 0, ?_, ?_, ?_, ?_, ?_, fun x => (by cases x)⟩
  · rw [Ga.next_φ]; exact heap_alloc_new
  · rw [Ga.next_φ]; have := h.length; simp at this; simp; omega
  · intro i v hv
    obtain ⟨v', h1, h2⟩ := h.get hv
    exact ⟨v', by rw [Ga.next_φ]; simpa using h1, h2.mono (Ga.le_next hn) (.alloc w _)⟩
  · intro _; rw [Ga.next_φ]; have := h.length; simp at this; simp [this]
  · exact fun _ => ⟨Nat.le_refl _, fun j h1 h2 => by omega⟩

theorem VR.ptrNext (n B : Nat) : VR (Γ.next n (B, 0)) w (ptrTo n) (.pointer (some ⟨B, 0, none⟩)) := by
  have := VR.ptr (Γ := Γ.next n (B, 0)) (w := w) (b := n) (o := 0) (.inr rfl)
  simpa [Ga.at, Ga.next_φ, ptrTo] using this

end Go.Iv
