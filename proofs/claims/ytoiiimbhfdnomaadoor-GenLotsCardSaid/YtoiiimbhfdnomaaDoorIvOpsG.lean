/- The operations, one by one (the seventh part): texts, conversions; all operations that call nothing. -/
import Derived.Test.YtoiiimbhfdnomaaDoorIvOpsF
namespace Go.Iv
open Go

variable {P : Program} {Γ : Ga} {H : IH} {w : World}

theorem evPlainRun_good (hR : Rh Γ H w) {s : Sem Value} {res : OpRes} (h : evPlainRun P H s = some res) : Good Γ H w ((asNext s).run P w) res := by
  unfold evPlainRun at h
  split at h
  · rename_i v hv
    split at h
    · rename_i hf; cases h; exact good_same hR (.of_free1 hf) (run_asNext (runP_run hv w))
    · cases h
  · cases h

theorem bytesOf_spec {cs : List Value} {bs : List UInt8} (h : bytesOf cs = some bs) : ∃ ns : List Int, cs = ns.map (Value.int .u8) ∧ bs = ns.map fun n => UInt8.ofNat n.toNat := by
  induction cs generalizing bs with
  | nil => simp only [bytesOf, Option.some.injEq] at h; subst h; exact ⟨[], rfl, rfl⟩
  | cons v vs ih =>
    simp only [bytesOf] at h
    split at h
    · rename_i b bs' hb hbs
      cases h
      obtain ⟨ns, rfl, rfl⟩ := ih hbs
      unfold byteOf at hb
      split at hb
      · rename_i n; cases hb; exact ⟨n :: ns, rfl, rfl⟩
      · cases hb
    · cases h

theorem free_ints (ns : List Int) : (ns.map (Value.int .u8)).all free1 = true := by
  induction ns with
  | nil => rfl
  | cons n ns ih => rw [List.map_cons, List.all_cons, ih]; rfl

theorem fold_push (ns : List Int) (s : ByteArray) : ns.foldl (fun r n => r.push (UInt8.ofNat n.toNat)) s = ba (bl s ++ ns.map fun n => UInt8.ofNat n.toNat) := by
  induction ns generalizing s with
  | nil => simp [ba_bl]
  | cons n ns ih =>
    simp only [List.foldl_cons, ih, List.map_cons]
    congr 1
    have : bl (s.push (UInt8.ofNat n.toNat)) = bl s ++ [UInt8.ofNat n.toNat] := by simp [bl, ByteArray.push]
    rw [this]; simp

theorem bl_empty : bl ByteArray.empty = [] := rfl

/-! ### Conversions -/
theorem evToString_good (hR : Rh Γ H w) {src dst e : TypeId} {x x' : Value} {res : OpRes} (hs : P.underlying src = some (.slice e)) (hd : P.underlying dst = some .string) (h : evToString P H e x = some res) (hx : VR Γ w x x') :
    Good Γ H w ((asNext (convert src dst x')).run P w) res := by
  have hconv : ∀ a l c, P.underlying e = some (.int .u8) → (convert src dst (.slice a l c)).run P w = (Conv.bytesToString (.slice a l c)).run P w := by
    intro a l c he; simp [convert, run_underlying hs, run_underlying hd, run_underlying he]
  unfold evToString at h
  split at h
  · rename_i l c he
    cases h
    obtain ⟨_, _, rfl⟩ := hx.snilE
    refine good_same hR (.string _) (run_asNext ?_)
    rw [hconv _ _ _ he]; rfl
  · rename_i b off len cap he
    obtain ⟨b1, o1, e1, hd', hsr⟩ := hx.sliceE
    cases e1
    split at h
    · rename_i hl0
      cases h
      subst hl0
      have : ∃ a' c', x' = .slice (some a') 0 c' := by
        rcases hsr with ⟨_, _, a2, rfl, _⟩ | ⟨s2, c2, a2, _, rfl, _, _⟩ <;> exact ⟨_, _, rfl⟩
      obtain ⟨a', c', rfl⟩ := this
      refine good_same hR (.string _) (run_asNext ?_)
      rw [hconv _ _ _ he, run_bytesToString w a' 0 c' [] (by simp [loadCells, loadCellsFrom])]
      rfl
    · rename_i hl0
      split at h
      · rename_i cs hc
        split at h
        · rename_i bs hbs
          cases h
          have : ∃ c', x' = .slice (some (Γ.at b off)) len c' := by
            rcases hsr with ⟨_, _, a2, rfl, ha⟩ | ⟨s2, c2, a2, _, rfl, _, hr⟩
            · exact ⟨_, by rw [ha.resolve_left (fun x => by omega)]⟩
            · rcases hr with ⟨_, _, _⟩ | ⟨rfl, _⟩
              · omega
              · exact ⟨_, rfl⟩
          obtain ⟨c', rfl⟩ := this
          obtain ⟨ns, rfl, rfl⟩ := bytesOf_spec hbs
          obtain ⟨cs', h1, h2, h3⟩ := load_run (P := P) hR hc
          obtain rfl := h1.eq_of_free1 (free_ints ns)
          refine good_same hR (.string _) (run_asNext ?_)
          rw [hconv _ _ _ he, run_bytesToString w _ len c' ns (h3 w rfl), fold_push, bl_empty]
          rfl
        · cases h
      · cases h
  · cases h

theorem freeze_lay {w : World} {B : Nat} {cs : Array Value} {e : TypeId} {lo hi : Nat} (h : w.heap[B]? = some (.cells cs e (lo, hi))) {off n : Nat} {sp : Option Nat} (hn : n ≠ 0) :
    w.freeze ⟨B, off, sp⟩ n = lay w B (.cells cs e (if lo == hi then (off, off + n) else (min lo off, max hi (off + n)))) := by
  obtain ⟨hlt, hb⟩ := Array.getElem?_eq_some_iff.1 h
  simp only [World.freeze, hn, if_false, lay]
  congr 1
  apply Array.ext
  · simp
  · intro i h1 h2
    rw [Array.getElem_modify, Array.getElem_setIfInBounds]
    · by_cases e1 : B = i
      · subst e1; simp [hb]
      · simp [e1]
    · simpa using h1

theorem evToBytes_good (hR : Rh Γ H w) {src dst e : TypeId} {s : ByteArray} {x' : Value} {res : OpRes} (hs : P.underlying src = some .string) (hd : P.underlying dst = some (.slice e)) (h : evToBytes P H e s = some res) (hx : VR Γ w (.string s) x') :
    Good Γ H w ((asNext (convert src dst x')).run P w) res := by
  unfold evToBytes at h
  split at h
  · rename_i he
    cases h
    rw [hx.stringE]
    have hge := grownCap_ge w s.size 0 e
    obtain ⟨arr, harr⟩ : ∃ arr : Array Value, arr = s.data.map (fun b => Value.int .u8 b.toNat) ++ Array.replicate (grownCap w s.size 0 e - s.size) (.int .u8 0) := ⟨_, rfl⟩
    have hsz : arr.size = grownCap w s.size 0 e := by
      rw [harr]
      simp only [Array.size_append, Array.size_map, Array.size_replicate]
      have : s.data.size = s.size := rfl
      omega
    have hnew := heap_alloc_new (w := w.drew) (o := .cells arr e)
    have hsz0 : w.drew.heap.size = w.heap.size := rfl
    rw [hsz0] at hnew
    have hrun : (convert src dst (.string s)).run P w = .ok (.slice (some ⟨w.heap.size, 0, none⟩) s.size (grownCap w s.size 0 e)) (lay (w.drew.alloc (.cells arr e)) w.heap.size (.cells arr e (arr.size, arr.size + 1))) := by
      have hsh : (w.drew.alloc (.cells arr e)).shape? w.heap.size = some (e, arr.size) := by
        simp only [World.shape?, hnew]
      have hfr := freeze_lay (w := w.drew.alloc (.cells arr e)) (B := w.heap.size) hnew (off := arr.size) (sp := none) (n := 1) (by decide)
      simp only [beq_self_eq_true, if_true] at hfr
      have hcap : (Question.appendCap s.size 0 e).cut (w.tape w.drawn (Question.appendCap s.size 0 e)) = grownCap w s.size 0 e := rfl
      simp only [convert, Sem.run_bind, run_underlying hs, run_underlying hd, run_underlying he, Result.andThen_ok, Conv.stringToBytes, run_choose, Question.forced, Bool.false_eq_true, if_false, hcap, ← harr]
      simp only [newRow, Sem.run_bind, run_newObj, Result.andThen_ok, Sem.run_pure, markStringish, run_shape, World.drew_eq, World.alloc_eq, hsz0, hsh, run_freeze, hfr]
    have hn0 : ¬ Γ.dom H.n := fun x => by have := hR.dom _ x; omega
    have hsame : Same w (lay (w.drew.alloc (.cells arr e)) w.heap.size (.cells arr e (arr.size, arr.size + 1))) := ((hR.drew.2.same).trans (.alloc _ _)).trans (lay_same hnew rfl)
    obtain ⟨h1, h2⟩ := new_drew hR (.cells ((bl s).map fun c => .int .u8 c.toNat) e 0 false false) (.cells arr e) (by
      refine ⟨arr, 0, 0, by rw [Ga.next_φ]; exact hnew, ?_, ?_, fun x => (by cases x), fun _ => ⟨Nat.le_refl _, fun j a b => by omega⟩, fun x => (by cases x)⟩
      · rw [Ga.next_φ, hsz]
        have : (bl s).length = s.size := Array.length_toList
        simp [this]; exact hge
      · intro j v hj
        rw [List.getElem?_map] at hj
        refine ⟨v, ?_, ?_⟩
        · rw [Ga.next_φ, harr, ← Array.getElem?_toList]
          simp only [Array.toList_append, Array.toList_map]
          have hlt : j < (bl s).length := by
            rcases Nat.lt_or_ge j (bl s).length with x | x
            · exact x
            · rw [List.getElem?_eq_none x] at hj; cases hj
          rw [List.getElem?_append_left (by simpa [bl] using hlt), List.getElem?_map]
          simpa [bl] using hj
        · cases hc : (bl s)[j]? with
          | none => rw [hc] at hj; cases hj
          | some c => rw [hc] at hj; cases hj; exact .int _ _)
    have hb : (H.new (.cells ((bl s).map fun c => .int .u8 c.toNat) e 0 false false)).get H.n = some (.cells ((bl s).map fun c => .int .u8 c.toNat) e 0 false false) := by rw [IH.get_new, if_pos rfl]
    obtain ⟨cs1, lo1, hi1, hr1⟩ := h1.obj _ _ hb
    have hblk1 := hr1.block
    rw [Ga.next_φ] at hblk1
    simp only at hblk1
    rw [hnew] at hblk1
    cases hblk1
    obtain ⟨h3, h4⟩ := h1.turn (w' := lay (w.drew.alloc (.cells arr e)) w.heap.size (.cells arr e (arr.size, arr.size + 1))) (.cells ((bl s).map fun c => .int .u8 c.toNat) e 0 false true) hb hR.ro (by simp) rfl rfl rfl (lay_same hnew rfl)
      (fun x hx => by rw [Ga.next_φ] at hx; exact lay_heap_other hx) (by
        refine ⟨arr, arr.size, arr.size + 1, by rw [Ga.next_φ]; exact lay_heap_same hnew, hr1.room, fun i v hv => ?_, fun x => (by cases x), fun _ => ⟨Nat.le_succ _, fun j a b => .inr ⟨rfl, a⟩⟩, fun _ => by rw [Ga.next_φ]⟩
        obtain ⟨v', a, b⟩ := hr1.cell i v hv
        exact ⟨v', a, b.mono (.refl _) (lay_same hnew rfl)⟩)
    have hput : (H.new (.cells ((bl s).map fun c => .int .u8 c.toNat) e 0 false false)).put H.n (.cells ((bl s).map fun c => .int .u8 c.toNat) e 0 false true) = H.new (.cells ((bl s).map fun c => .int .u8 c.toNat) e 0 false true) := IH.new_put _ _ _
    rw [hput] at h3 h4
    refine ⟨_, _, _, run_asNext hrun, ?_, h3, h2.trans h4⟩
    refine .sliceU (.inr rfl) hge (.inr ⟨by simp [Ga.at, Ga.next_φ], ⟨arr, e, _, lay_heap_same hnew, by simp; omega⟩⟩)
  · cases h

theorem evBytesAgain_good (hR : Rh Γ H w) {src dst e0 e : TypeId} {b off l c : Nat} {x' : Value} {res : OpRes} (hs : P.underlying src = some (.slice e0)) (hd : P.underlying dst = some (.slice e))
    (h : evBytesAgain P H src dst e b off l c = some res) (hx : VR Γ w (.slice (some ⟨b, off, none⟩) l c) x') : Good Γ H w ((asNext (convert src dst x')).run P w) res := by
  unfold evBytesAgain at h
  split at h
  · rename_i hsd
    split at h
    · rename_i cs e' fz ex sh he hb
      split at h
      · rename_i hcond
        cases h
        simp only [Bool.and_eq_true, decide_eq_true_eq, beq_iff_eq] at hcond
        obtain ⟨⟨hro, hfz⟩, hexsh⟩ := hcond
        subst hfz
        obtain ⟨cs', lo, hi, hr⟩ := hR.obj b _ hb
        have hbase : (Γ.φ b).2 = 0 := by
          simp only [Bool.or_eq_true] at hexsh
          rcases hexsh with x | x
          · exact (hr.exact_ x).1
          · exact hr.base0 x
        have hfro : ∀ j, lo ≤ j → j < hi → cs'.size ≤ j := fun j h1 h2 => by
          rcases (hr.frozen hro).2 j h1 h2 with y | ⟨_, y⟩
          · omega
          · exact y
        have hblock : ∃ a' l' c', x' = .slice (some a') l' c' ∧ a'.block = (Γ.φ b).1 := by
          obtain ⟨b1, o1, e1, _, hsr⟩ := hx.sliceE
          cases e1
          rcases hsr with ⟨_, _, a2, rfl, ha⟩ | ⟨s2, c2, a2, _, rfl, _, hr2⟩
          · exact ⟨_, _, _, rfl, by rcases ha with ⟨_, x⟩ | rfl <;> first | exact x | rfl⟩
          · exact ⟨_, _, _, rfl, by rcases hr2 with ⟨_, _, x⟩ | ⟨rfl, _⟩ <;> first | exact x | rfl⟩
        obtain ⟨a', l', c', rfl, hblk⟩ := hblock
        have hsh : w.shape? (Γ.φ b).1 = some (e', cs'.size) := by simp only [World.shape?, hr.block]
        obtain ⟨fr, hfr⟩ : ∃ fr, fr = (if lo == hi then (cs'.size, cs'.size + 1) else (min lo cs'.size, max hi (cs'.size + 1))) := ⟨_, rfl⟩
        have hfrz := freeze_lay (w := w) hr.block (off := cs'.size) (sp := none) (n := 1) (by decide)
        rw [← hfr] at hfrz
        have hrun : (convert src dst (.slice (some a') l' c')).run P w = .ok (.slice (some a') l' c') (lay w (Γ.φ b).1 (.cells cs' e' fr)) := by
          simp only [convert, Sem.run_bind, run_underlying hs, run_underlying hd, run_underlying he, Result.andThen_ok, hsd, markStringish, run_shape, hblk, hsh, run_freeze, hfrz, Sem.run_pure]
        have hfr1 : ∀ j, fr.1 ≤ j → cs'.size ≤ j := by
          intro j hj
          rw [hfr] at hj
          by_cases hlh : lo = hi
          · subst hlh; simp at hj; exact hj
          · have hne : (lo == hi) = false := by simpa using hlh
            simp only [hne, Bool.false_eq_true, if_false] at hj
            have hl : lo < hi := by have := (hr.frozen hro).1; omega
            have := hfro lo (Nat.le_refl _) hl
            omega
        have hfr2 : fr.1 ≤ fr.2 := by
          rw [hfr]
          split
          · exact Nat.le_succ _
          · simp only; omega
        have hsame := lay_same (cs' := cs') (f' := fr) hr.block rfl
        obtain ⟨h3, h4⟩ := hR.turn (w' := lay w (Γ.φ b).1 (.cells cs' e' fr)) (.cells cs e' 0 ex true) hb hro (by simp) rfl rfl rfl hsame
          (fun x hx => lay_heap_other hx) (by
            refine ⟨cs', fr.1, fr.2, lay_heap_same hr.block, hr.room, fun i v hv => ?_, hr.exact_, fun _ => ⟨hfr2, fun j h1 h2 => .inr ⟨rfl, hfr1 j h1⟩⟩, fun _ => hbase⟩
            obtain ⟨v', a, b⟩ := hr.cell i v hv; exact ⟨v', a, b.mono (.refl _) hsame⟩)
        refine ⟨_, _, _, run_asNext hrun, hx.mono (.refl _) hsame, h3, h4⟩
      · cases h
    · cases h
  · cases h

end Go.Iv
