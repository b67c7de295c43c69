/- The operations, one by one (the second part). -/
import Derived.Test.YtoiiimbhfdnomaaDoorIvOpsA
namespace Go.Iv
open Go

variable {P : Program} {Γ : Ga} {H : IH} {w : World}

theorem VRs.reps {z z' : List Value} (h : VRs Γ w z z') (n : Nat) : VRs Γ w (Iv.reps z n) (Iv.reps z' n) := by
  induction n with
  | zero => exact .nil
  | succ n ih => exact h.append ih

theorem zero_cells {t : TypeId} {z : Value} (hz : zeroOf P t = some z) : VRs Γ w z.cells.toList z.cells.toList :=
  (VR.of_free (zeroOf_free hz)).cells (by rintro rfl; have := zeroOf_free hz; simp [Iv.poison, free, free1] at this)

theorem evBuildSlice_good (hR : Rh Γ H w) {t : TypeId} {len : Nat} {ps : List (Nat × Value)} {ps' : Array (Nat × Value)} {res : OpRes} (h : evBuildSlice P H t len ps = some res) (hp : PsR Γ w ps ps'.toList) :
    Good Γ H w ((asNext (Instr.buildSlice t len ps')).run P w) res := by
  unfold evBuildSlice at h
  split at h
  · rename_i e i he
    obtain ⟨hu, hi⟩ := elemSize_spec he
    split at h
    · rename_i hcond
      simp only [Bool.and_eq_true, decide_eq_true_eq] at hcond
      obtain ⟨hbig', hok⟩ := hcond
      have hbig : len * i.size + len ≤ 2 ^ 24 := by rw [← Nat.mul_succ]; exact hbig'
      split at h
      · rename_i z hz
        split at h
        · rename_i hsz
          split at h
          · rename_i cells hfill
            cases h
            have hzr := zero_cells (Γ := Γ) (w := w) hz
            have harr : ((Array.range (len * i.size)).map (fun j => z.cells[j % z.cells.size]!)) = ⟨Iv.reps z.cells.toList len⟩ := by
              apply Array.toList_inj.1; rw [← hsz, reps_eq]
            obtain ⟨r', h1, h2⟩ := fill_rel hp hok (hzr.reps len) hfill
            obtain ⟨h3, h4⟩ := newCells_run hR e h2
            have hn : (Γ.next H.n (w.heap.size, 0)).dom H.n := .inr rfl
            refine ⟨_, _, _, run_asNext (v := .slice (some ⟨w.heap.size, 0, none⟩) len len) (w' := w.alloc (.cells r' e)) ?_, ?_, h3, h4⟩
            · simp only [Instr.buildSlice, Sem.run_bind, run_underlying hu, Result.andThen_ok, run_sizeOf' hi]
              rw [if_neg (by omega)]
              by_cases h0 : len * i.size = 0
              · have hnil : Iv.reps z.cells.toList len = [] := by
                  rw [← reps_eq, hsz, h0]; simp
                have hfill' : Instr.fill (fun j => some (j * i.size, i.size)) #[] ps'.toList = some r' := by
                  rw [← h1, hnil]
                simp [h0, Array.range_zero', hfill', newRow]
              · simp only [h0, if_false, Sem.run_bind, run_zeroValue' hz, Result.andThen_ok, Sem.run_pure]
                rw [harr]
                simp [h1, newRow]
            · have := VR.slice (Γ := Γ.next H.n (w.heap.size, 0)) (w := w.alloc (.cells r' e)) (o := 0) (l := len) (c := len) hn (by unfold unk; omega) (Nat.le_refl _) (.inr rfl)
              simpa [Ga.at, Ga.next_φ] using this
          · cases h
        · cases h
      · cases h
    · cases h
  · cases h

theorem evLoad_good (hR : Rh Γ H w) {t : TypeId} {a a' : Value} {res : OpRes} (h : evLoad P H t a = some res) (ha : VR Γ w a a') : Good Γ H w ((asNext (Instr.loadAt t a')).run P w) res := by
  unfold evLoad at h
  split at h
  · rename_i b off
    split at h
    · rename_i v hv
      cases h
      obtain ⟨b', o', e, hd, rfl⟩ := ha.ptrE
      cases e
      obtain ⟨v', h1, h2⟩ := ldVar_run hR hv
      exact good_same hR h2 (run_asNext (by simp [Instr.loadAt, Instr.sureAddr, h1]))
    · cases h
  · cases h

theorem evStore_good (hR : Rh Γ H w) {t : TypeId} {a a' v v' : Value} {res : OpRes} (h : evStore P H t a v = some res) (ha : VR Γ w a a') (hv : VR Γ w v v') :
    Good Γ H w ((do Instr.storeAt t a' v'; pure .skip : Sem Next).run P w) res := by
  unfold evStore at h
  split at h
  · rename_i b off
    split at h
    · rename_i H' hst
      cases h
      obtain ⟨b', o', e, hd, rfl⟩ := ha.ptrE
      cases e
      obtain ⟨w', h1, h2, h3⟩ := stVar_run hR hst hv
      exact ⟨w', Γ, by simp [Instr.storeAt, Instr.sureAddr, h1], h2, h3⟩
    · cases h
  · cases h

theorem evMakeIface_good (hR : Rh Γ H w) {t : TypeId} {v v' : Value} {res : OpRes} (h : evMakeIface P H t v = some res) (hv : VR Γ w v v') : Good Γ H w ((asNext (Instr.makeInterface t v')).run P w) res := by
  unfold evMakeIface at h
  split at h
  · cases h
  · rename_i d hn hu
    cases h
    refine good_same hR (.iface t hv) (run_asNext ?_)
    simp only [Instr.makeInterface, Sem.run_bind, run_underlying hu, Result.andThen_ok]
    cases d <;> simp_all
  · cases h

theorem VRs.map_opd {ρ ρ' : Operand → Value} (hv : ∀ x, VR Γ w (ρ x) (ρ' x)) (l : List Operand) : VRs Γ w (l.map ρ) (l.map ρ') := by
  induction l with
  | nil => exact .nil
  | cons x l ih => exact .cons (hv x) ih

theorem PsR.map_opd {ρ ρ' : Operand → Value} (hv : ∀ x, VR Γ w (ρ x) (ρ' x)) (l : List (Nat × Operand)) :
    PsR Γ w (l.map fun p => (p.1, ρ p.2)) (l.map fun p => (p.1, ρ' p.2)) := by
  induction l with
  | nil => exact .nil
  | cons x l ih => exact .cons (hv x.2) ih

theorem new_run (hR : Rh Γ H w) (o : IObj) (o' : Obj) (ho : ObjR (Γ.next H.n (w.heap.size, 0)) (w.alloc o') H.n o) (v v' : Value) {s : Sem Value}
    (hv : VR (Γ.next H.n (w.heap.size, 0)) (w.alloc o') v v') (hs : s.run P w = .ok v' (w.alloc o')) : Good Γ H w ((asNext s).run P w) (.val v (H.new o)) := by
  obtain ⟨h1, h2⟩ := hR.new o o' ho
  exact ⟨_, _, _, run_asNext hs, hv, h1, h2⟩

theorem evMakeMap_good (hR : Rh Γ H w) {t : TypeId} {r r' : Option Value} {res : OpRes} (h : evMakeMap P H t r = some res) (hr : ∀ v, r = some v → ∃ v', r' = some v' ∧ VR Γ w v v') (hn : r = none → r' = none) :
    Good Γ H w ((asNext (Instr.makeMap t r')).run P w) res := by
  have hobj : ObjR (Γ.next H.n (w.heap.size, 0)) (w.alloc (.map #[] 0)) H.n (.map [] 0) := ⟨#[], by rw [Ga.next_φ]; exact heap_alloc_new, .nil⟩
  have hval : VR (Γ.next H.n (w.heap.size, 0)) (w.alloc (.map #[] 0)) (.map (some H.n)) (.map (some w.heap.size)) := by
    have := VR.map (Γ := Γ.next H.n (w.heap.size, 0)) (w := w.alloc (.map #[] 0)) (r := H.n) (.inr rfl)
    simpa using this
  unfold evMakeMap at h
  split at h
  · cases h
    rw [hn rfl]
    exact new_run hR _ _ hobj _ _ hval (by simp [Instr.makeMap])
  · rename_i hint
    split at h
    · rename_i k' n hu
      cases h
      obtain ⟨v', rfl, hv⟩ := hr _ rfl
      rw [hv.intE]
      exact new_run hR _ _ hobj _ _ hval (by simp [Instr.makeMap, run_underlying hu, asInt, asIntOf])
    · cases h

theorem evFieldAddr_good (hR : Rh Γ H w) {s : TypeId} {x x' : Value} {f : Nat} {res : OpRes} (h : evFieldAddr P H s x f = some res) (hx : VR Γ w x x') : Good Γ H w ((asNext (Instr.fieldAt s x' f)).run P w) res := by
  unfold evFieldAddr at h
  split at h
  · rename_i fs b off hu
    split at h
    · rename_i fd hf
      split at h
      · rename_i i hi
        split at h
        · cases h
        · rename_i h0
          cases h
          obtain ⟨b', o', e, hd, rfl⟩ := hx.ptrE
          cases e
          refine good_same hR (.ptr (o := off + fd.offset) hd) (run_asNext ?_)
          simp only [Instr.fieldAt, Sem.run_bind, run_underlying hu, Result.andThen_ok, hf]
          simp [Instr.sureAddr, fieldPlace, run_sizeOf' hi, h0, at_add]
      · cases h
    · cases h
  · cases h

theorem partOf_run {t : TypeId} {cs : List Value} {cs' : Array Value} {off : Nat} {v : Value} (h : partOf P t cs off = some v) (hc : VRs Γ w cs cs'.toList) :
    ∃ v', (part t cs' off).run P w = .ok v' w ∧ VR Γ w v v' := by
  unfold partOf at h
  split at h
  · rename_i ha
    split at h
    · rename_i i hi
      cases h
      refine ⟨.agg (cs'.extract off (off + i.size)), by simp [part, run_isAgg' ha, run_sizeOf' hi], .agg ?_⟩
      have := (hc.drop off).take i.size
      simpa [List.extract_eq_drop_take'] using this
    · cases h
  · rename_i ha
    obtain ⟨v', h1, h2⟩ := hc.get h
    have h1' : cs'[off]? = some v' := by simpa using h1
    exact ⟨v', by simp [part, run_isAgg' ha, h1'], h2⟩
  · cases h

theorem evField_good (hR : Rh Γ H w) {t : TypeId} {x x' : Value} {f : Nat} {res : OpRes} (h : evField P H t x f = some res) (hx : VR Γ w x x') : Good Γ H w ((asNext (Instr.field t x' f)).run P w) res := by
  unfold evField at h
  split at h
  · rename_i fs cs hu
    split at h
    · rename_i fd hf
      unfold valOf at h
      split at h
      · rename_i v hv
        cases h
        obtain ⟨cs', rfl, hc⟩ := hx.aggE
        obtain ⟨v', h1, h2⟩ := partOf_run hv hc
        refine good_same hR h2 (run_asNext ?_)
        simp only [Instr.field, Sem.run_bind, run_underlying hu, Result.andThen_ok, hf]
        simp [asAgg, h1]
      · cases h
    · cases h
  · cases h

theorem evIndexAddr_good (hR : Rh Γ H w) {t : TypeId} {x x' ix ix' : Value} {res : OpRes} (h : evIndexAddr P H t x ix = some res) (hx : VR Γ w x x') (hi : VR Γ w ix ix') :
    Good Γ H w ((asNext (Instr.indexAt t x' ix')).run P w) res := by
  unfold evIndexAddr at h
  split at h
  · rename_i n e b off k i hu
    split at h
    · rename_i inf hinf
      split at h
      · rename_i hc
        cases h
        simp only [Bool.and_eq_true, decide_eq_true_eq] at hc
        obtain ⟨b', o', e', hd, rfl⟩ := hx.ptrE
        cases e'
        rw [hi.intE]
        refine good_same hR (.ptr (o := off + i.toNat * inf.size) hd) (run_asNext ?_)
        simp only [Instr.indexAt, Sem.run_bind, run_underlying hu, Result.andThen_ok, asIntOf, Sem.run_pure, Instr.sureAddr]
        simp [hc.1, hc.2, run_sizeOf' hinf, at_add]
      · cases h
    · cases h
  · rename_i e b off len cap k i hu
    split at h
    · rename_i inf hinf
      split at h
      · rename_i hc
        cases h
        simp only [Bool.and_eq_true, decide_eq_true_eq] at hc
        rw [hi.intE]
        obtain ⟨b', o', e', hd, hs⟩ := hx.sliceE
        cases e'
        rcases hs with ⟨hcap, hl, a', rfl, ha⟩ | ⟨s, c', a', hcap, rfl, hl, hs⟩
        · obtain rfl : a' = Γ.at b off := ha.resolve_left (fun x => by omega)
          refine good_same hR (.ptr (o := off + i.toNat * inf.size) hd) (run_asNext ?_)
          simp only [Instr.indexAt, Sem.run_bind, run_underlying hu, Result.andThen_ok, asIntOf, Sem.run_pure]
          simp [hc.1, hc.2, run_sizeOf' hinf, at_add]
        · rcases hs with ⟨h0, h0', _⟩ | ⟨rfl, _⟩
          · omega
          · refine good_same hR (.ptr (o := off + i.toNat * inf.size) hd) (run_asNext ?_)
            simp only [Instr.indexAt, Sem.run_bind, run_underlying hu, Result.andThen_ok, asIntOf, Sem.run_pure]
            simp [hc.1, hc.2, run_sizeOf' hinf, at_add]
      · cases h
    · cases h
  · cases h

theorem bl_get (s : ByteArray) (i : Nat) : s[i]? = (bl s)[i]? := by
  by_cases h : i < s.size
  · rw [ByteArray.getElem?_lt' s i h]
    have h' : i < s.data.size := h
    simp only [bl, Array.getElem?_toList, Array.getElem?_eq_getElem h']
    rfl
  · rw [ByteArray.getElem?_ge' s i h]
    have h' : ¬ i < s.data.size := h
    simp only [bl, Array.getElem?_toList]
    rw [Array.getElem?_eq_none (by omega)]

theorem evIndex_good (hR : Rh Γ H w) {t : TypeId} {x x' ix ix' : Value} {res : OpRes} (h : evIndex P H t x ix = some res) (hx : VR Γ w x x') (hi : VR Γ w ix ix') :
    Good Γ H w ((asNext (Instr.index t x' ix')).run P w) res := by
  unfold evIndex at h
  split at h
  · rename_i s k i hu
    split at h
    · rename_i h0
      split at h
      · rename_i c hc
        cases h
        rw [hi.intE, hx.stringE]
        refine good_same hR (.int _ _) (run_asNext ?_)
        simp only [Instr.index, Sem.run_bind, run_underlying hu, Result.andThen_ok, asIntOf, Sem.run_pure]
        simp [h0, bl_get, hc]
      · cases h
    · cases h
  · rename_i n e cs k i hu
    split at h
    · rename_i hc
      simp only [Bool.and_eq_true, decide_eq_true_eq] at hc
      split at h
      · rename_i inf hinf
        unfold valOf at h
        split at h
        · rename_i v hv
          cases h
          obtain ⟨cs', rfl, hcs⟩ := hx.aggE
          obtain ⟨v', h1, h2⟩ := partOf_run hv hcs
          rw [hi.intE]
          refine good_same hR h2 (run_asNext ?_)
          simp only [Instr.index, Sem.run_bind, run_underlying hu, Result.andThen_ok, asIntOf, Sem.run_pure]
          simp [hc.1, hc.2, run_sizeOf' hinf, h1]
        · cases h
      · cases h
    · cases h
  · cases h

theorem evRange_good (hR : Rh Γ H w) {t : TypeId} {x x' : Value} {res : OpRes} (h : evRange P H t x = some res) (hx : VR Γ w x x') : Good Γ H w ((asNext (Instr.range t x')).run P w) res := by
  unfold evRange at h
  split at h
  · rename_i s hu
    cases h
    rw [hx.stringE]
    refine new_run hR _ (.stringIter s 0) ?_ _ _ (VR.ptrNext _ _) ?_
    · unfold ObjR; rw [Ga.next_φ]; exact ⟨heap_alloc_new, rfl⟩
    · simp only [Instr.range, Sem.run_bind, run_underlying hu, Result.andThen_ok, Sem.run_pure]; simp
  · cases h

theorem evNext_good (hR : Rh Γ H w) {x x' : Value} {ty : TypeId} {res : OpRes} (h : evNext H x = some res) (hx : VR Γ w x x') : Good Γ H w ((asNext (Instr.next x' true ty)).run P w) res := by
  unfold evNext at h
  split at h
  · rename_i r
    split at h
    · rename_i s pos hb
      split at h
      · cases h
      · rename_i hro
        obtain ⟨b', o', e', hd, rfl⟩ := hx.ptrE
        cases e'
        have ho := hR.obj r _ hb
        have ho' : w.heap[(Γ.φ r).1]? = some (.stringIter s pos) := ho.1
        have hbase : (Γ.φ r).2 = 0 := ho.2
        split at h
        · rename_i hp
          cases h
          have hs : Same w (lay w (Γ.φ r).1 (.stringIter s (pos + (Utf8.decode s pos).2))) := lay_same' ho' (by simp)
          obtain ⟨h1, h2⟩ := hR.turn (w' := lay w (Γ.φ r).1 (.stringIter s (pos + (Utf8.decode s pos).2))) (.strIter s (pos + (Utf8.decode s pos).2)) hb (by omega) (by simp) rfl rfl rfl hs
            (fun x hx => lay_heap_other hx) ⟨lay_heap_same ho', hbase⟩
          refine ⟨_, _, _, run_asNext (v := .tuple #[.bool true, .int .i64 pos, .int .i32 (Utf8.decode s pos).1]) ?_, .tuple (.cons (.bool true) (.cons (.int _ _) (.cons (.int _ _) .nil))), h1, h2⟩
          simp [Instr.next, Ga.at, hbase, ho', hp, getObj, setObj, Sem.run, goInt, lay]
        · rename_i hp
          cases h
          refine good_same hR (.tuple (.cons (.bool false) .nil)) (run_asNext ?_)
          simp [Instr.next, Ga.at, hbase, ho', hp, getObj, Sem.run]
    · cases h
  · cases h

theorem evTypeAssert_good (hR : Rh Γ H w) {x x' : Value} {xt asserted : TypeId} {ok : Bool} {res : OpRes} (h : evTypeAssert P H x asserted ok = some res) (hx : VR Γ w x x') :
    Good Γ H w ((asNext (Instr.typeAssert x' xt asserted ok)).run P w) res := by
  unfold evTypeAssert at h
  split at h
  · cases h
  · rename_i d t v hn hu
    split at h
    · rename_i ht
      cases h
      obtain ⟨v', rfl, hv⟩ := hx.ifaceE
      refine good_same hR (hv.withOk ok true) (run_asNext ?_)
      simp only [Instr.typeAssert, Sem.run_bind, run_underlying hu, Result.andThen_ok]
      cases d <;> simp_all
    · cases h
  · cases h

theorem evExtract_good (hR : Rh Γ H w) {x x' : Value} {i : Nat} {res : OpRes} (h : evExtract H x i = some res) (hx : VR Γ w x x') : Good Γ H w ((asNext (Instr.extract x' i)).run P w) res := by
  unfold evExtract at h
  split at h
  · rename_i vs
    unfold valOf at h
    split at h
    · rename_i v hv
      cases h
      obtain ⟨vs', rfl, hvs⟩ := hx.tupleE
      obtain ⟨v', h1, h2⟩ := hvs.get hv
      have h1' : vs'[i]? = some v' := by simpa using h1
      exact good_same hR h2 (run_asNext (by simp [Instr.extract, h1']))
    · cases h
  · cases h

theorem evMakeSlice_good (hR : Rh Γ H w) {t : TypeId} {l l' c c' : Value} {res : OpRes} (h : evMakeSlice P H t l c = some res) (hl : VR Γ w l l') (hc : VR Γ w c c') :
    Good Γ H w ((asNext (Instr.makeSlice t l' c')).run P w) res := by
  unfold evMakeSlice at h
  split at h
  · rename_i e i ln cn he
    obtain ⟨hu, hi⟩ := elemSize_spec he
    split at h
    · rename_i hcond
      simp only [Bool.and_eq_true, decide_eq_true_eq] at hcond
      obtain ⟨⟨h0, h1⟩, h2⟩ := hcond
      split at h
      · rename_i z hz
        split at h
        · rename_i hsz
          cases h
          rw [hl.intE, hc.intE]
          have hzi : i.zero = some z := by
            have := hz
            unfold zeroOf at this
            simp only [hi] at this
            split at this
            · rename_i z' hz'
              split at this
              · cases this; exact hz'
              · cases this
            · cases this
          have hb0 : 0 ≤ cn * (i.bytes : Int) := Int.mul_nonneg (by omega) (by omega)
          have hbb : cn * (i.bytes : Int) + cn ≤ 1099511627776 := by
            have e1 : cn * ((i.bytes : Int) + 1) = cn * (i.bytes : Int) + cn := by rw [Int.mul_add, Int.mul_one]
            have e2 : ((roomy : Nat) : Int) = 1099511627776 := by decide
            rw [← e1, ← e2]; exact h2
          have hrun := run_make (P := P) w t e i z hu hi hzi .i64 .i64 ln cn h0 h1 (by rw [Int.mul_comm]; omega) (by omega)
          have hcells : madeCells z.cells (cn.toNat * i.size) = ⟨Iv.reps z.cells.toList cn.toNat⟩ := by
            apply Array.toList_inj.1; unfold madeCells; rw [← hsz, reps_eq]
          have hzr := (zero_cells (Γ := Γ) (w := w) hz).reps cn.toNat
          obtain ⟨h3, h4⟩ := newCells_run (cs' := ⟨Iv.reps z.cells.toList cn.toNat⟩) hR e hzr
          refine ⟨_, _, _, run_asNext (by rw [hrun, hcells]), ?_, h3, h4⟩
          have := VR.slice (Γ := Γ.next H.n (w.heap.size, 0)) (w := w.alloc (.cells ⟨Iv.reps z.cells.toList cn.toNat⟩ e)) (o := 0) (l := ln.toNat) (c := cn.toNat) (.inr rfl) (by unfold unk; omega) (by omega) (.inr rfl)
          simpa [Ga.at, Ga.next_φ] using this
        · cases h
      · cases h
    · cases h
  · cases h

end Go.Iv
