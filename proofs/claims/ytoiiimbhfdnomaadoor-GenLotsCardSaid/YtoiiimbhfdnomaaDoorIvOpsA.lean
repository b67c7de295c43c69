/- The operations, one by one (the first part). -/
import Derived.Test.YtoiiimbhfdnomaaDoorIvOps
import Derived.Laws.MakeOwn
import Derived.Laws.Append
import Derived.Laws.Strings
import Derived.Laws.AppendOwn
namespace Go.Iv
open Go

variable {P : Program} {Γ : Ga} {H : IH} {w : World}

/-! ### What is related to what -/
section inv
variable {v' : Value}
theorem VR.boolE {b : Bool} (h : VR Γ w (.bool b) v') : v' = .bool b := by cases h; rfl
theorem VR.intE {k : IntKind} {n : Int} (h : VR Γ w (.int k n) v') : v' = .int k n := by cases h; rfl
theorem VR.stringE {s : ByteArray} (h : VR Γ w (.string s) v') : v' = .string s := by cases h; rfl
theorem VR.pnilE (h : VR Γ w (.pointer none) v') : v' = .pointer none := by cases h; rfl
theorem VR.ptrE {a : Addr} (h : VR Γ w (.pointer (some a)) v') : ∃ b o, a = ⟨b, o, none⟩ ∧ Γ.dom b ∧ v' = .pointer (some (Γ.at b o)) := by
  cases h with | ptr h => exact ⟨_, _, rfl, h, rfl⟩
theorem VR.mnilE (h : VR Γ w (.map none) v') : v' = .map none := by cases h; rfl
theorem VR.mapE {r : Nat} (h : VR Γ w (.map (some r)) v') : Γ.dom r ∧ v' = .map (some (Γ.φ r).1) := by cases h with | map h => exact ⟨h, rfl⟩
theorem VR.aggE {a : Array Value} (h : VR Γ w (.agg a) v') : ∃ a', v' = .agg a' ∧ VRs Γ w a.toList a'.toList := by cases h with | agg h => exact ⟨_, rfl, h⟩
theorem VR.tupleE {a : Array Value} (h : VR Γ w (.tuple a) v') : ∃ a', v' = .tuple a' ∧ VRs Γ w a.toList a'.toList := by cases h with | tuple h => exact ⟨_, rfl, h⟩
theorem VR.ifaceE {t : TypeId} {x : Value} (h : VR Γ w (.iface t x) v') : ∃ x', v' = .iface t x' ∧ VR Γ w x x' := by cases h with | iface t h => exact ⟨_, rfl, h⟩
theorem VR.nilIfaceE (h : VR Γ w .nilIface v') : v' = .nilIface := by cases h; rfl
theorem VR.nilFuncE (h : VR Γ w .nilFunc v') : v' = .nilFunc := by cases h; rfl
theorem VR.funcE {fn : Fn} {a c : Array Value} (h : VR Γ w (.func fn a c) v') (hf : plainFn fn = true) : ∃ a' c', v' = .func fn a' c' ∧ VRs Γ w a.toList a'.toList ∧ VRs Γ w c.toList c'.toList := by
  cases h with
  | func _ ha hc => exact ⟨_, _, rfl, ha, hc⟩
  | yield => simp [plainFn] at hf
theorem VR.yieldE {l : Nat} {a c : Array Value} (h : VR Γ w (.func (.yield l) a c) v') : a = #[] ∧ c = #[] ∧ Γ.dom l ∧ v' = .func (.yield (Γ.φ l).1) #[] #[] := by
  cases h with
  | func hf => simp [plainFn] at hf
  | yield h => exact ⟨rfl, rfl, h, rfl⟩
theorem VR.snilE {l c : Nat} (h : VR Γ w (.slice none l c) v') : l = 0 ∧ c = 0 ∧ v' = .slice none 0 0 := by cases h; exact ⟨rfl, rfl, rfl⟩
theorem VR.sliceE {a : Addr} {l c : Nat} (h : VR Γ w (.slice (some a) l c) v') : ∃ b o, a = ⟨b, o, none⟩ ∧ Γ.dom b ∧
    ((c < unk ∧ l ≤ c ∧ ∃ a', v' = .slice (some a') l c ∧ ((c = 0 ∧ a'.block = (Γ.φ b).1) ∨ a' = Γ.at b o)) ∨
     ∃ s c' a', c = unk + s ∧ v' = .slice (some a') l c' ∧ l ≤ c' ∧ ((c' = 0 ∧ l = 0 ∧ a'.block = (Γ.φ b).1) ∨ (a' = Γ.at b o ∧ Room w a' (c' * s)))) := by
  cases h with
  | slice h hc hl ha => exact ⟨_, _, rfl, h, .inl ⟨hc, hl, _, rfl, ha⟩⟩
  | sliceU h hl hr => exact ⟨_, _, rfl, h, .inr ⟨_, _, _, rfl, rfl, hl, hr⟩⟩
theorem VR.withOk {v v' : Value} (h : VR Γ w v v') (ok t : Bool) : VR Γ w (Iv.withOk ok v t) (if ok then .tuple #[v', .bool t] else v') := by
  unfold Iv.withOk; cases ok
  · exact h
  · exact .tuple (.cons h (.cons (.bool t) .nil))
end inv

theorem at_add (b o n : Nat) : (Γ.at b o).add n = Γ.at b (o + n) := by
  simp only [Ga.at, Addr.add]; split
  · simp_all
  · simp

/-- A value that the model's operation gives. -/
abbrev asNext (s : Sem Value) : Sem Next := do pure (.value (← s))
theorem run_asNext {s : Sem Value} {v : Value} {w w' : World} (h : s.run P w = .ok v w') : (asNext s).run P w = .ok (.value v) w' := by simp [h]

theorem evPick_good (hR : Rh Γ H w) {c a b c' a' b' : Value} {res : OpRes} (h : evPick H c a b = some res) (hc : VR Γ w c c') (ha : VR Γ w a a') (hb : VR Γ w b b') :
    Good Γ H w ((do pure (.value (if ← asBool c' then a' else b')) : Sem Next).run P w) res := by
  unfold evPick at h
  split at h
  · rename_i t
    cases h
    rw [hc.boolE]
    cases t
    · exact good_same hR hb (by simp [asBool])
    · exact good_same hR ha (by simp [asBool])
  · cases h

theorem evAlloc_good (hR : Rh Γ H w) {e : TypeId} {res : OpRes} (h : evAlloc P H e = some res) : Good Γ H w ((asNext (Instr.alloc e true (.tuple #[]))).run P w) res := by
  unfold evAlloc at h
  split at h
  · rename_i z hz
    cases h
    have hzr : VRs Γ w z.cells.toList z.cells.toList := (VR.of_free (zeroOf_free hz)).cells (by rintro rfl; have := zeroOf_free hz; simp [Iv.poison, free, free1] at this)
    obtain ⟨h1, h2⟩ := newCells_run hR e hzr
    exact ⟨_, _, _, run_asNext (by simp [Instr.alloc, run_zeroValue' hz, newVar, newRow]), .ptrNext _ _, h1, h2⟩
  · cases h

theorem ok_ne {v : Value} (h : okv v = true) : v ≠ Iv.poison := by rintro rfl; simp [okv, Iv.poison] at h

theorem evBox_good (hR : Rh Γ H w) {e : TypeId} {v v' : Value} {res : OpRes} (h : evBox H e v = some res) (hv : VR Γ w v v') : Good Γ H w ((asNext (Instr.box e v')).run P w) res := by
  unfold evBox at h
  split at h
  · rename_i hok
    cases h
    obtain ⟨h1, h2⟩ := newCells_run hR e (hv.cells (ok_ne hok))
    exact ⟨_, _, _, run_asNext (by simp [Instr.box, newVar, newRow]), .ptrNext _ _, h1, h2⟩
  · cases h

/-! ### Building -/
inductive PsR (Γ : Ga) (w : World) : List (Nat × Value) → List (Nat × Value) → Prop
  | nil : PsR Γ w [] []
  | cons {i : Nat} {v v' : Value} {l l' : List (Nat × Value)} (h : VR Γ w v v') (t : PsR Γ w l l') : PsR Γ w ((i, v) :: l) ((i, v') :: l')

theorem fold_setRun (off : Nat) (vs : List Value) (i : Nat) (cells : Array Value) :
    ((vs.zipIdx i).foldl (fun (cs : Array Value) (x : Value × Nat) => cs.setIfInBounds (off + x.2) x.1) cells).toList = setRun cells.toList (off + i) vs := by
  induction vs generalizing i cells with
  | nil => rfl
  | cons v vs ih =>
    simp only [List.zipIdx_cons, List.foldl_cons, ih, setRun]
    simp [Nat.add_assoc]

theorem fill_rel {place : Nat → Option (Nat × Nat)} {ps ps' : List (Nat × Value)} (hp : PsR Γ w ps ps') (hok : ps.all (fun p => okv p.2) = true) :
    ∀ {cells cells' : Array Value} {r : Array Value}, VRs Γ w cells.toList cells'.toList → Instr.fill place cells ps = some r →
      ∃ r', Instr.fill place cells' ps' = some r' ∧ VRs Γ w r.toList r'.toList := by
  induction hp with
  | nil => intro cells cells' r hc h; simp only [Instr.fill, Option.some.injEq] at h; subst h; exact ⟨_, rfl, hc⟩
  | @cons i v v' l l' hv t ih =>
    intro cells cells' r hc h
    simp only [List.all_cons, Bool.and_eq_true] at hok
    have hvc := hv.cells (ok_ne hok.1)
    have hlen := hvc.length
    have hlc := hc.length
    simp only [Instr.fill] at h ⊢
    split at h
    · cases h
    · rename_i off size hpl
      have e1 : v'.cells.size = v.cells.size := by simpa using hlen.symm
      have e2 : cells'.size = cells.size := by simpa using hlc.symm
      simp only [e1, e2]
      split at h
      · cases h
      · rename_i hcond
        rw [if_neg hcond]
        refine ih hok.2 ?_ h
        have h1 := fold_setRun off v.cells.toList 0 cells
        have h2 := fold_setRun off v'.cells.toList 0 cells'
        rw [← Array.foldl_toList, ← Array.foldl_toList]
        simp only [Array.toList_zipIdx]
        rw [h1, h2]
        have key := setRun_rel (Γ := Γ) (w := w) (cs := cells.toList) (cs' := cells') (base := 0) (off := off + 0) (by simp; omega) (fun j x hj => by
          obtain ⟨x', a, b⟩ := hc.get hj; exact ⟨x', by simpa using a, b⟩) hvc
        refine .of_get (by simp [setRun_length, e2]) fun j x hj => ?_
        obtain ⟨x', a, b⟩ := key j x hj
        exact ⟨x', by simpa using a, b⟩

theorem run_places (fs : List Field) {r : List (Nat × Nat)} (h : placesOf P fs = some r) :
    (fs.mapM fun (f : Field) => (do pure (f.offset, ← sizeOf f.type) : Sem (Nat × Nat))).run P w = .ok r w := by
  induction fs generalizing r with
  | nil => simp only [placesOf, Option.some.injEq] at h; subst h; rfl
  | cons f fs ih =>
    simp only [placesOf] at h
    split at h
    · rename_i i r' hi hr
      simp only [Option.some.injEq] at h
      subst h
      simp only [List.mapM_cons, Sem.run_bind, run_sizeOf' hi, Result.andThen_ok, Sem.run_pure, ih hr]
    · cases h

theorem evBuild_good (hR : Rh Γ H w) {t : TypeId} {ps : List (Nat × Value)} {ps' : Array (Nat × Value)} {res : OpRes} (h : evBuild P H t ps = some res) (hp : PsR Γ w ps ps'.toList) :
    Good Γ H w ((asNext (Instr.build t ps')).run P w) res := by
  unfold evBuild at h
  split at h
  · rename_i hok
    split at h
    · rename_i z hz
      have hzr : VRs Γ w z.cells.toList z.cells.toList := (VR.of_free (zeroOf_free hz)).cells (by rintro rfl; have := zeroOf_free hz; simp [Iv.poison, free, free1] at this)
      split at h
      · rename_i fs hu
        split at h
        · rename_i places hpl
          split at h
          · rename_i cells hfill
            cases h
            obtain ⟨r', h1, h2⟩ := fill_rel hp hok hzr hfill
            refine good_same hR (.agg h2) (run_asNext ?_)
            have hm : (fs.mapM fun (f : Field) => (do pure (f.offset, ← sizeOf f.type) : Sem (Nat × Nat))).run P w = .ok places.toArray w := by
              rw [Array.mapM_eq_mapM_toList, Sem.run_map, run_places fs.toList hpl]; rfl
            simp only [Instr.build, Sem.run_bind, run_zeroValue' hz, Result.andThen_ok, run_underlying hu, hm]
            simp [h1]
          · cases h
        · cases h
      · rename_i n e hu
        split at h
        · rename_i i hi
          split at h
          · rename_i cells hfill
            cases h
            obtain ⟨r', h1, h2⟩ := fill_rel hp hok hzr hfill
            refine good_same hR (.agg h2) (run_asNext ?_)
            simp only [Instr.build, Sem.run_bind, run_zeroValue' hz, Result.andThen_ok, run_underlying hu, run_sizeOf' hi]
            simp [h1]
          · cases h
        · cases h
      · cases h
    · cases h
  · cases h

theorem reps_eq (z : Array Value) (n : Nat) : ((Array.range (n * z.size)).map (fun i => z[i % z.size]!)).toList = reps z.toList n := by
  induction n with
  | zero => simp [reps]
  | succ n ih =>
    have h1 : (reps z.toList (n + 1)) = z.toList ++ reps z.toList n := rfl
    rw [h1, ← ih]
    apply List.ext_getElem?
    intro i
    simp only [Array.toList_map, Array.toList_range, List.getElem?_map]
    by_cases hz : z.size = 0
    · simp [hz]
    by_cases hi : i < (n + 1) * z.size
    · rw [List.getElem?_range hi]
      by_cases h2 : i < z.size
      · rw [List.getElem?_append_left (by simpa using h2)]
        simp [Nat.mod_eq_of_lt h2, h2]
      · rw [List.getElem?_append_right (by simp; omega)]
        simp only [Array.length_toList, List.getElem?_map]
        have h3 : i - z.size < n * z.size := by rw [Nat.succ_mul] at hi; omega
        rw [List.getElem?_range h3]
        simp only [Option.map_some]
        have : (i - z.size) % z.size = i % z.size := (Nat.mod_eq_sub_mod (by omega)).symm
        rw [this]
    · rw [List.getElem?_eq_none (by simpa using hi)]
      rw [List.getElem?_append_right (by simp; rw [Nat.succ_mul] at hi; omega)]
      simp only [Array.length_toList, List.getElem?_map, Option.map_none]
      rw [List.getElem?_eq_none (by simp; rw [Nat.succ_mul] at hi; omega)]
      rfl

end Go.Iv
