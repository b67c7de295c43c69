/- The operations, one by one (the eighth part): bare memory; all that call nothing. -/
import Derived.Test.YtoiiimbhfdnomaaDoorIvOpsG
namespace Go.Iv
open Go

variable {P : Program} {Γ : Ga} {H : IH} {w : World}

theorem seenAt_cells {B off : Nat} {sp : Option Nat} {cs : Array Value} {e : TypeId} {f : Nat × Nat} (h : w.heap[B]? = some (.cells cs e f)) : (Conv.seenAt ⟨B, off, sp⟩).run P w = .ok ⟨B, off, sp⟩ w := by
  have hsh : w.shape? B = some (e, cs.size) := by simp only [World.shape?, h]
  simp [Conv.seenAt, viewAt, hsh]

theorem cellsOf_info {t : TypeId} (h : (P.cellsOf t != 0) = true) : ∃ i, P.info? t = some i ∧ i.size ≠ 0 ∧ P.cellsOf t = i.size := by
  unfold Program.cellsOf at h ⊢
  cases hi : P.info? t with
  | none => simp [hi] at h
  | some i => simp [hi] at h; exact ⟨i, rfl, h, by simp⟩

theorem evToUnsafe_good (hR : Rh Γ H w) {src dst t : TypeId} {x x' : Value} {res : OpRes} (hs : P.underlying src = some (.pointer t)) (hd : P.underlying dst = some .unsafePointer) (h : evToUnsafe P H t x = some res) (hx : VR Γ w x x') :
    Good Γ H w ((asNext (convert src dst x')).run P w) res := by
  have hconv : ∀ a, (convert src dst (.pointer a)).run P w = (Conv.unsafePointer src dst (.pointer a)).run P w := by
    intro a; simp [convert, run_underlying hs, run_underlying hd]
  unfold evToUnsafe at h
  split at h
  · cases h; rw [hx.pnilE]
    exact good_same hR .pnil (run_asNext (by rw [hconv]; simp [Conv.unsafePointer, run_underlying hs, run_underlying hd]))
  · rename_i b off
    split at h
    · rename_i cs e fz ex sh hb
      split at h
      · rename_i hc
        cases h
        simp only [Bool.and_eq_true, decide_eq_true_eq] at hc
        obtain ⟨i, hi, hi0, _⟩ := cellsOf_info hc.1
        obtain ⟨b1, o1, e1, hd', rfl⟩ := hx.ptrE
        cases e1
        obtain ⟨cs', lo, hi', hr⟩ := hR.obj b _ hb
        refine good_same hR (.ptr hd') (run_asNext ?_)
        rw [hconv]
        have hsh : w.shape? (Γ.φ b).1 = some (e, cs'.size) := by simp only [World.shape?, hr.block]
        have hlt : ¬ cs'.size ≤ (Γ.φ b).2 + off := by have := hr.room; omega
        have hseen := seenAt_cells (P := P) (off := (Γ.φ b).2 + off) (sp := none) hr.block
        simp [Conv.unsafePointer, run_underlying hs, run_underlying hd, Ga.at, hseen, cellsIn, hsh, hlt, run_sizeOf' hi, hi0]
      · cases h
    · cases h
  · cases h

theorem evFromUnsafe_good (hR : Rh Γ H w) {src dst u : TypeId} {x x' : Value} {res : OpRes} (hs : P.underlying src = some .unsafePointer) (hd : P.underlying dst = some (.pointer u)) (h : evFromUnsafe P H u x = some res) (hx : VR Γ w x x') :
    Good Γ H w ((asNext (convert src dst x')).run P w) res := by
  have hconv : ∀ a, (convert src dst (.pointer a)).run P w = (Conv.unsafePointer src dst (.pointer a)).run P w := by
    intro a; simp [convert, run_underlying hs, run_underlying hd]
  unfold evFromUnsafe at h
  split at h
  · cases h; rw [hx.pnilE]
    exact good_same hR .pnil (run_asNext (by rw [hconv]; simp [Conv.unsafePointer, run_underlying hs, run_underlying hd]))
  · rename_i b off
    split at h
    · rename_i cs e fz sh hb
      split at h
      · rename_i hc
        cases h
        simp only [Bool.and_eq_true] at hc
        obtain ⟨i, hi, hi0, _⟩ := cellsOf_info hc.1
        obtain ⟨b1, o1, e1, hd', rfl⟩ := hx.ptrE
        cases e1
        obtain ⟨cs', lo, hi', hr⟩ := hR.obj b _ hb
        obtain ⟨hb0, hsz⟩ := hr.exact_ rfl
        refine good_same hR (.ptr hd') (run_asNext ?_)
        rw [hconv]
        have hsh : w.shape? (Γ.φ b).1 = some (e, cs'.size) := by simp only [World.shape?, hr.block]
        have hseen := seenAt_cells (P := P) (off := off) (sp := none) hr.block
        simp [Conv.unsafePointer, run_underlying hs, run_underlying hd, Ga.at, hb0, hseen, run_sizeOf' hi, hi0, variablesAt, hsh, hsz, hc.2]
      · cases h
    · cases h
  · cases h

theorem run_loadBytes (b : Nat) (cs : List Int) : ∀ (off : Nat) (acc : ByteArray), (∀ (j : Nat) (n : Int), cs[j]? = some n → w.cell? ⟨b, off + j, none⟩ = some (.int .u8 n)) →
    (loadBytes ⟨b, off, none⟩ acc cs.length).run P w = .ok (cs.foldl (fun r n => r.push (UInt8.ofNat n.toNat)) acc) w := by
  induction cs with
  | nil => intro off acc _; simp [loadBytes]
  | cons n cs ih =>
    intro off acc h
    have h0 := h 0 n rfl
    simp only [Nat.add_zero] at h0
    have hadd : (⟨b, off, none⟩ : Addr).add 1 = ⟨b, off + 1, none⟩ := by simp [Addr.add]
    simp only [List.length_cons, loadBytes, Sem.run_bind, run_load, h0, Result.andThen_ok, hadd, List.foldl_cons]
    exact ih (off + 1) _ fun j m hj => by
      have := h (j + 1) m (by simpa using hj)
      rw [← this]; congr 2; omega

theorem us_none (ats : Array TypeId) (ty t0 : TypeId) (h0 : ats[0]? = some t0) (n : Int) : ∃ (x y : Sem Unit) (z : Sem Value), (Builtin.unsafeString_ ats ty #[.pointer none, .int .i64 n]) =
    (do
      let n ← asInt (.int .i64 n)
      if n < 0 then x
      if n > IntKind.i64.max then y
      if n = 0 then pure (.string .empty)
      else z) := by
  have : ∃ (x y : Sem Unit) (z u : Sem Value), (Builtin.unsafeString_ ats ty #[.pointer none, .int .i64 n]) = (do
      let n ← asInt (.int .i64 n)
      match ats[0]? with
      | some _ => do
        if n < 0 then x
        if n > IntKind.i64.max then y
        if n = 0 then pure (.string .empty)
        else z
      | _ => u) := ⟨_, _, _, _, rfl⟩
  obtain ⟨x, y, z, u, this⟩ := this
  exact ⟨x, y, z, by rw [this, h0]⟩

theorem us_some (ats : Array TypeId) (ty t0 : TypeId) (h0 : ats[0]? = some t0) (a : Addr) (n : Int) : ∃ (x y : Sem Unit) (z : Sem Value), (Builtin.unsafeString_ ats ty #[.pointer (some a), .int .i64 n]) =
    (do
      let n ← asInt (.int .i64 n)
      if n < 0 then x
      if n > IntKind.i64.max then y
      if n = 0 then pure (.string .empty)
      else if ← variablesAt a (← elemOf t0) n.toNat then do
        let s ← loadBytes a .empty n.toNat
        freeze a n.toNat
        pure (.string s)
      else z) := by
  have : ∃ (x y : Sem Unit) (z u : Sem Value), (Builtin.unsafeString_ ats ty #[.pointer (some a), .int .i64 n]) = (do
      let n ← asInt (.int .i64 n)
      match ats[0]? with
      | some pt => do
        if n < 0 then x
        if n > IntKind.i64.max then y
        if n = 0 then pure (.string .empty)
        else if ← variablesAt a (← elemOf pt) n.toNat then do
          let s ← loadBytes a .empty n.toNat
          freeze a n.toNat
          pure (.string s)
        else z
      | _ => u) := ⟨_, _, _, _, rfl⟩
  obtain ⟨x, y, z, u, this⟩ := this
  exact ⟨x, y, z, by rw [this, h0]⟩

theorem evUString_good (hR : Rh Γ H w) {ats : Array TypeId} {ty : TypeId} {p p' : Value} {n : Int} {res : OpRes} (h : evUString P H ats p n = some res) (hp : VR Γ w p p') (h0 : ∃ t, ats[0]? = some t) :
    Good Γ H w ((asNext (Builtin.unsafeString_ ats ty #[p', .int .i64 n])).run P w) res := by
  obtain ⟨t0, h0⟩ := h0
  unfold evUString at h
  split at h
  · split at h
    · rename_i hn
      cases h; rw [hp.pnilE]
      refine good_same hR (.string _) (run_asNext ?_)
      obtain ⟨_, _, _, hus⟩ := us_none ats ty t0 h0 _
      rw [hus]
      simp [asInt, asIntOf, hn]
      rfl
    · cases h
  · rename_i b off
    obtain ⟨b1, o1, e1, hd, rfl⟩ := hp.ptrE
    cases e1
    split at h
    · rename_i hn
      cases h
      refine good_same hR (.string _) (run_asNext ?_)
      obtain ⟨_, _, _, hus⟩ := us_some ats ty t0 h0 (Γ.at b off) n
      rw [hus]
      simp [asInt, asIntOf, hn]
      rfl
    · rename_i hn
      split at h
      · rename_i cs e fz ex sh pt hb hpt
        rw [h0] at hpt
        cases hpt
        by_cases hcond : (decide (roN ≤ b) && !sh && decide (0 ≤ n) && decide (n ≤ (roomy : Int)) && decide (off + n.toNat ≤ cs.length) && P.cellsOf e == 1 && isPtrTo P t0 e) = true
        · rw [if_pos hcond] at h
          split at h
          · rename_i bs hbs
            cases h
            simp only [Bool.and_eq_true, decide_eq_true_eq, Bool.not_eq_true', beq_iff_eq] at hcond
            obtain ⟨⟨⟨⟨⟨⟨hro, hsh⟩, hn0⟩, hnb⟩, hle⟩, hone⟩, hpe⟩ := hcond
            have hptr : P.underlying t0 = some (.pointer e) := by
              unfold isPtrTo at hpe
              split at hpe
              · rename_i e2 hu; rw [hu, beq_iff_eq.1 hpe]
              · cases hpe
            subst hsh
            obtain ⟨cs', lo, hi, hr⟩ := hR.obj b _ hb
            have hcell := hr.room
            obtain ⟨ns, hns, rfl⟩ := bytesOf_spec hbs
            have hnl : ns.length = n.toNat := by
              have := congrArg List.length hns
              simp at this; omega
            have hshape : w.shape? (Γ.φ b).1 = some (e, cs'.size) := by simp only [World.shape?, hr.block]
            have hca : H.cellsAt b off n.toNat = some (ns.map (Value.int .u8)) := by
              simp only [IH.cellsAt, hb]; rw [if_pos hle, hns]
            obtain ⟨cs2, h1, h2, h3⟩ := hR.cellsAt hca
            obtain rfl := h1.eq_of_free1 (free_ints ns)
            have hloads : (loadBytes (Γ.at b off) .empty n.toNat).run P w = .ok (ba (ns.map fun m => UInt8.ofNat m.toNat)) w := by
              have := run_loadBytes (P := P) (w := w) (Γ.φ b).1 ns ((Γ.φ b).2 + off) .empty (fun j m hj => by
                have := h3 j (.int .u8 m) (by simpa using hj)
                rw [at_add] at this
                rw [← this]; simp [Ga.at, Nat.add_assoc])
              rw [hnl, fold_push, bl_empty] at this
              exact this
            have hvar : (variablesAt (Γ.at b off) e n.toNat).run P w = .ok true w := by
              have hlies : liesAt P P.depth e (cs'.size / P.cellsOf e) ((Γ.φ b).2 + off) e n.toNat = true := by
                have hdep : P.depth = (2 * (P.types.size + Made.depth) + 1) + 1 := rfl
                have hfit : (Γ.φ b).2 + off + n.toNat ≤ cs'.size := by omega
                have hsl : sameLayout P P.depth e e = true := by rw [hdep]; simp [sameLayout]
                have hrow : rowAt P (fun x => sameLayout P P.depth x e) P.depth e cs'.size ((Γ.φ b).2 + off) n.toNat = true := by
                  rw [hdep]
                  simp [rowAt, hone, hfit, ← hdep, hsl, Nat.mod_one]
                rw [hone, Nat.div_one, hdep, liesAt, hrow]
                rfl
              simp [variablesAt, Ga.at, hshape, hlies]
            obtain ⟨fr, hfr⟩ : ∃ fr, fr = (if lo == hi then ((Γ.φ b).2 + off, (Γ.φ b).2 + off + n.toNat) else (min lo ((Γ.φ b).2 + off), max hi ((Γ.φ b).2 + off + n.toNat))) := ⟨_, rfl⟩
            have hfrz := freeze_lay (w := w) hr.block (off := (Γ.φ b).2 + off) (sp := none) (n := n.toNat) (by omega)
            rw [← hfr] at hfrz
            have hrun : (Builtin.unsafeString_ ats ty #[.pointer (some (Γ.at b off)), .int .i64 n]).run P w = .ok (.string (ba (ns.map fun m => UInt8.ofNat m.toNat))) (lay w (Γ.φ b).1 (.cells cs' e fr)) := by
              have e1 : ¬ n < 0 := by omega
              have e2 : ¬ n > 9223372036854775807 := by
                have : ((roomy : Nat) : Int) = 1099511627776 := by decide
                omega
              have hel : (elemOf t0).run P w = .ok e w := by simp [elemOf, run_underlying hptr]
              obtain ⟨_, _, _, hus⟩ := us_some ats ty t0 h0 (Γ.at b off) n
              rw [hus]
              simp [asInt, asIntOf, e1, e2, hn, hel, hvar, hloads]
              exact hfrz
            have hord := (hr.frozen hro).1
            have hfro : ∀ j, lo ≤ j → j < hi → j < (Γ.φ b).2 + fz := fun j a c => ((hr.frozen hro).2 j a c).resolve_right (by simp)
            have hsame := lay_same (cs' := cs') (f' := fr) hr.block rfl
            obtain ⟨h4, h5⟩ := hR.turn (w' := lay w (Γ.φ b).1 (.cells cs' e fr)) (.cells cs e (max fz (off + n.toNat)) ex false) hb hro (by simp) rfl rfl rfl hsame (fun x hx => lay_heap_other hx) (by
              refine ⟨cs', fr.1, fr.2, lay_heap_same hr.block, hr.room, fun i v hv => ?_, hr.exact_, fun _ => ⟨?_, fun j a c => .inl ?_⟩, fun x => (by cases x)⟩
              · obtain ⟨v', a, c⟩ := hr.cell i v hv; exact ⟨v', a, c.mono (.refl _) hsame⟩
              · rw [hfr]; split <;> (simp only; omega)
              · rw [hfr] at a c
                by_cases hlh : lo = hi
                · subst hlh
                  simp at a c
                  omega
                · have hne : (lo == hi) = false := by simpa using hlh
                  simp only [hne, Bool.false_eq_true, if_false] at a c
                  have := hfro (hi - 1) (by omega) (by omega)
                  omega)
            exact ⟨_, _, _, run_asNext hrun, .string _, h4, h5⟩
          · cases h
        · rw [if_neg hcond] at h; cases h
      · cases h
  · cases h

theorem evConvert_good (hR : Rh Γ H w) {src dst : TypeId} {x x' : Value} {res : OpRes} (h : evConvert P H src dst x = some res) (hx : VR Γ w x x') : Good Γ H w ((asNext (convert src dst x')).run P w) res := by
  unfold evConvert at h
  split at h
  · rename_i k1 k hs hd
    split at h
    · cases h; rw [hx.intE]
      exact good_same hR (.int _ _) (run_asNext (by simp [convert, run_underlying hs, run_underlying hd, Conv.intToInt]))
    · cases h
  · rename_i k1 hs hd
    split at h
    · cases h; rw [hx.intE]
      exact good_same hR (.string _) (run_asNext (by simp [convert, run_underlying hs, run_underlying hd, Conv.intToString]))
    · cases h
  · rename_i hs hd
    split at h
    · cases h; rw [hx.stringE]
      exact good_same hR (.string _) (run_asNext (by simp [convert, run_underlying hs, run_underlying hd]))
    · cases h
  · rename_i e hs hd
    split at h
    · exact evToBytes_good hR hs hd h hx
    · cases h
  · rename_i e0 e hs hd
    split at h
    · exact evBytesAgain_good hR hs hd h hx
    · cases h
  · rename_i e hs hd
    exact evToString_good hR hs hd h hx
  · rename_i t hs hd
    exact evToUnsafe_good hR hs hd h hx
  · rename_i u hs hd
    exact evFromUnsafe_good hR hs hd h hx
  · cases h

end Go.Iv
