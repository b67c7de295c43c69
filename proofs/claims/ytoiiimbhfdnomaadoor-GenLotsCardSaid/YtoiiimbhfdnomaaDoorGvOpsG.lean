/- The pure evaluator's operations are the ideal one's (the seventh part): lists made, ranges over texts, what has no body. -/
import Derived.Test.YtoiiimbhfdnomaaDoorGvOpsF
namespace Go.Gv
open Go Go.Iv

section
variable {β : Type} {P : Program} {hint : Hint} {O : Nat → Prop} {Γ Γ1 : Gam} {Pu Pu1 : Nat → Prop} {H H1 : GH} {I I1 I2 : IH} {K : TV → GH → Option β} {r : β}

theorem Sh.sz_pos : ∀ s : Sh, 0 < s.sz := by
  intro s
  induction s with
  | cons a b iha ihb => simp only [Sh.sz]; omega
  | _ => exact Nat.one_pos

theorem repG_ok {z : List TV} {z' : List Value} (h : GRs Γ Pu I z z') : ∀ n, GRs Γ Pu I (repG z n) (reps z' n) := by
  intro n
  induction n with
  | zero => exact .nil
  | succ n ih => exact h.append ih

theorem rowsOf_ok {s : Sh} : ∀ {n : Nat} {l : List TV} {vs : List Value} {xs : List s.ty}, rowsOf s n l = some xs → GRs Γ Pu I l vs → xs.length = n ∧ vs.length = n * s.sz ∧ Row Pu I s xs vs 0 := by
  intro n
  induction n with
  | zero =>
    intro l vs xs h hr
    unfold rowsOf at h
    split at h
    · cases h; cases hr; exact ⟨rfl, by simp, fun i x h => by cases h⟩
    · cases h
    · rename_i h0; exact absurd h0 (by simp)
  | succ n ih =>
    intro l vs xs h hr
    unfold rowsOf at h
    split at h
    · rename_i x rest h1
      split at h
      · rename_i xs' h2
        cases h
        obtain ⟨u, w, rfl, e1, r1⟩ := Sh.of_ok h1 hr
        obtain ⟨a1, a2, a3⟩ := ih h2 r1
        have hl := e1.len
        have hx : Row Pu I s [x] u 0 := fun i y hi => by
          cases i with
          | zero => cases hi; simpa [hl, List.take_of_length_le (Nat.le_of_eq hl)] using e1
          | succ i => cases hi
        exact ⟨by simp [a1], by rw [List.length_append, hl, a2, Nat.add_mul]; omega, hx.app a3 (by simp [hl])⟩
      · cases h
    · cases h

theorem gBuildSlice_ok {sh : ShT} (hs : Sim P hint Γ Pu H I) {t : TypeId} {len : Nat} {ps : List (Nat × TV)} {ps' : List (Nat × Value)} (h : gBuildSlice P sh H t len ps K = some r) (hp : PsG Γ Pu I ps ps') : Good P hint K r Γ Pu H I (resV (evBuildSlice P I t len ps')) := by
  unfold gBuildSlice at h
  split at h
  · rename_i e i he
    replace h := bif_some h; obtain ⟨hb, h⟩ := h
    replace hb := Go.Gv.and_true hb; obtain ⟨hb1, hb2⟩ := hb
    split at h
    · rename_i z s hz hsh
      replace h := bif_some h; obtain ⟨hc, h⟩ := h
      replace hc := Go.Gv.and_true hc; obtain ⟨hc, hc3⟩ := hc
      replace hc := Go.Gv.and_true hc; obtain ⟨hc1, hc2⟩ := hc
      have k1 := beq_true hc1
      have k3 := beq_true hc3
      split at h
      · rename_i cells hf
        obtain ⟨vs', hf', hr'⟩ := fillG_ok (vs := ⟨reps z.cells.toList len⟩) hf hb2 hp (repG_ok (convL_ok hc2) len)
        split at h
        · rename_i cells' H1 hpl
          obtain ⟨Pu1, s1, e1, r1⟩ := pureL_ok hs hpl hr'
          split at h
          · rename_i xs hx
            obtain ⟨a1, a2, a3⟩ := rowsOf_ok hx r1
            have hsz := s.sz_pos
            have a2' : vs'.toList.length = xs.length * s.sz := by rw [a1]; exact a2
            have hlu : len < unk := by
              have := ble_true hb1
              have h2 : len ≤ len * (i.size + 1) := Nat.le_mul_of_pos_right _ (by omega)
              unfold unk
              have : (2 : Nat) ^ 24 < 2 ^ 64 := by decide
              omega
            obtain ⟨s2, e2, r2⟩ := app_new s1 (e := e) (ys := xs) (cs := vs'.toList) hsz a2' a3 true false 0 (Nat.zero_le _) (fun _ => rfl) (fun h => by cases h) len
              (.inr ⟨hlu, by omega, by rw [a2]; omega⟩) true
            have : evBuildSlice P I t len ps' = some (.val (.slice (some ⟨I.n, 0, none⟩) len len) (newCells I e vs'.toList)) := by
              simp only [evBuildSlice, he, hz]
              rw [if_pos (by simp [hp.ok hb2]; exact ble_true hb1), if_pos k1, hf']
            rw [this]
            rw [a1] at r2 s2 e2
            simp only [resV]
            exact ⟨_, _, _, _, _, _, h, rfl, r2, s2, Ex.trans hs s1 e1 e2⟩
          · cases h
        · cases h
      · cases h
    · cases h
  · cases h

theorem list_reps (z : Value) (n : Nat) : reps [z] n = List.replicate n z := by
  induction n with
  | zero => rfl
  | succ n ih => simp [reps, ih, List.replicate_succ]

theorem reps_row {s : Sh} {x : s.ty} {z : List Value} (h : Enc Pu I s x z) : ∀ n, (reps z n).length = n * s.sz ∧ Row Pu I s (List.replicate n x) (reps z n) 0 := by
  intro n
  induction n with
  | zero => exact ⟨by simp [reps], fun i y h => by cases h⟩
  | succ n ih =>
    have hl := h.len
    refine ⟨by simp [reps, ih.1, hl, Nat.add_mul]; omega, ?_⟩
    have hx : Row Pu I s [x] z 0 := fun i y hi => by
      cases i with
      | zero => cases hi; simpa [hl, List.take_of_length_le (Nat.le_of_eq hl)] using h
      | succ i => cases hi
    have := hx.app ih.2 (by simp [hl])
    simpa [reps, List.replicate_succ] using this

theorem gMakeSlice_ok {sh : ShT} (hs : Sim P hint Γ Pu H I) {t : TypeId} {eq : Bool} {l c : TV} {l' c' : Value} (h : gMakeSlice std P sh H t eq l c K = some r) (hl : GR Γ Pu I l l') (hc : GR Γ Pu I c c') (heq : eq = true → l = c) : Good P hint K r Γ Pu H I (resV (evMakeSlice P I t l' c')) := by
  unfold gMakeSlice at h
  split at h
  · rename_i e i l c he
    cases hl; cases hc
    split at h
    · rename_i z s hz hsh
      replace h := bif_some h; obtain ⟨hb, h⟩ := h
      replace hb := Go.Gv.and_true hb; obtain ⟨hb, hb3⟩ := hb
      replace hb := Go.Gv.and_true hb; obtain ⟨hb1, hb2⟩ := hb
      have k1 := beq_true hb1
      have k3 := beq_true hb3
      split at h
      · rename_i zz hzz
        replace h := need_some h; obtain ⟨hn, h⟩ := h
        replace hn := Go.Gv.and_true hn; obtain ⟨hn, hn3⟩ := hn
        replace hn := Go.Gv.and_true hn; obtain ⟨hn1, hn2⟩ := hn
        have n1 := ile_true hn1
        have n2 := ile_true hn2
        have n3 := ile_true hn3
        have henc := Sh.ofAll_ok hzz (convL_ok (Γ := Γ) (Pu := Pu) (I := I) hb2)
        obtain ⟨q1, q2⟩ := reps_row henc c.toNat
        have hsz := s.sz_pos
        have hcu : c.toNat < unk := by
          have : c ≤ c * ((i.bytes : Int) + 1) := by
            have h0 : 0 ≤ c := by omega
            have : c * 1 ≤ c * ((i.bytes : Int) + 1) := Int.mul_le_mul_of_nonneg_left (by omega) h0
            omega
          unfold unk
          have h1 : (roomy : Int) < 2 ^ 64 := by unfold roomy; decide
          have h2 : (2 : Int) ^ 64 = ((2 ^ 64 : Nat) : Int) := by decide
          omega
        obtain ⟨s2, e2, r2⟩ := app_new hs (e := e) (ys := List.replicate c.toNat zz) (cs := reps z.cells.toList c.toNat) hsz (by rw [List.length_replicate]; exact q1) q2 true false 0 (Nat.zero_le _) (fun _ => rfl) (fun h => by cases h) c.toNat
          (.inr ⟨hcu, by simp, by rw [q1]; omega⟩) true
        have hev : evMakeSlice P I t (.int .i64 l) (.int .i64 c) = some (.val (.slice (some ⟨I.n, 0, none⟩) l.toNat c.toNat) (newCells I e (reps z.cells.toList c.toNat))) := by
          simp only [evMakeSlice, he, hz]
          rw [if_pos (by simp [n1, n2]; exact n3), if_pos k1]
        rw [hev]
        simp only [resV]
        have hlc : l.toNat ≤ c.toNat := by omega
        cases eq with
        | true =>
          have := heq rfl
          cases this
          rw [List.length_replicate] at r2 s2 e2
          exact ⟨_, _, _, _, _, _, h, rfl, r2, s2, e2⟩
        | false =>
          refine ⟨_, _, _, _, _, _, h, rfl, .own (l := ⟨some (I.n, 0), (List.replicate c.toNat zz).length, s.sz, (reps z.cells.toList c.toNat).length⟩) (by simp [Gam.up]) (by simp; omega) ?_, s2, e2⟩
          exact ⟨c.toNat, by simp, .inr ⟨hcu, hlc, by rw [q1]; simp⟩⟩
      · cases h
    · cases h
  · cases h

theorem gRange_ok (hs : Sim P hint Γ Pu H I) {t : TypeId} {x : TV} {x' : Value} (h : gRange P H t x K = some r) (hx : GR Γ Pu I x x') : Good P hint K r Γ Pu H I (resV (evRange P I t x')) := by
  unfold gRange at h
  split at h
  · rename_i s hu
    cases hx
    simp only [evRange, hu, resV]
    obtain ⟨s1, e1⟩ := hs.new (.iter s 0) (.strIter (ba s) 0) ⟨some (I.n, 0), 0, 0, 0⟩ 0 rfl ⟨I.n, rfl, hs.ro, by rw [IH.get_new, if_pos rfl]⟩
    exact ⟨_, _, _, _, _, _, h, rfl, .ptr (l := ⟨some (I.n, 0), 0, 0, 0⟩) (by simp [Gam.up]) rfl, s1, e1⟩
  · cases h

theorem gNext_ok (hs : Sim P hint Γ Pu H I) {x : TV} {x' : Value} (h : gNext std H x K = some r) (hx : GR Γ Pu I x x') : Good P hint K r Γ Pu H I (resV (evNext I x')) := by
  unfold gNext at h
  split at h
  · rename_i id
    cases hx with | ptr hl hp =>
    rename_i b l
    split at h
    · rename_i s pos hg
      obtain ⟨l', hl', ho⟩ := hs.obj _ _ hg
      cases hl.symm.trans hl'
      obtain ⟨b', hp', hro, hgb⟩ := ho
      cases hp.symm.trans hp'
      rcases sel_some h with ⟨h1, h2⟩ | ⟨h1, h2⟩
      · have hlt : pos < (ba s).size := blt_true h1
        simp only [evNext, hgb, if_neg (Nat.not_lt_of_le hro), if_pos hlt, resV]
        obtain ⟨s1, e1⟩ := hs.turn hg rfl hl hp (.iter s (pos + (Utf8.decode (ba s) pos).2)) (.strIter (ba s) (pos + (Utf8.decode (ba s) pos).2)) ⟨b, hp, hro, by rw [IH.get_put, if_pos rfl]⟩
        exact ⟨_, _, _, _, _, _, h2, rfl, .tup (.cons (.bool true) (.cons (.int _ _) (.cons (.int _ _) .nil))), s1, e1⟩
      · have hlt : ¬ pos < (ba s).size := fun hh => by
          have : Nat.blt pos s.length = true := Nat.ble_eq_true_of_le hh
          rw [this] at h1; cases h1
        simp only [evNext, hgb, if_neg (Nat.not_lt_of_le hro), if_neg hlt, resV]
        exact Good.same hs h2 (.tup (.cons (.bool false) .nil))
    · cases h
  · cases h

/-! ### Builtins -/
theorem gSliceData_ok (hs : Sim P hint Γ Pu H I) {x : TV} {x' : Value} {at0 : Array TypeId} {ty : TypeId} (h : gSliceData std H x K = some r) (hx : GR Γ Pu I x x') : Good P hint K r Γ Pu H I (resV (evBuiltin P I .unsafeSliceData at0 ty [x'])) := by
  unfold gSliceData at h
  split at h
  · cases hx
    simp only [evBuiltin, resV]
    exact Good.same hs h (.raw _)
  · rename_i id
    cases hx with | all hl hv =>
    rename_i l
    split at h
    · rename_i et e xs w fz em hg
      obtain ⟨l', hl', ho⟩ := hs.obj _ _ hg
      cases hl.symm.trans hl'
      have h1 := ho.1
      have some_ : xs ≠ [] → K (.elm id 0 0) H = some r → Good P hint K r Γ Pu H I (resV (evBuiltin P I .unsafeSliceData at0 ty [x'])) := fun hne h => by
        unfold SlV at hv
        split at hv
        · rw [h1] at hv; exact absurd (List.eq_nil_of_length_eq_zero hv.2) hne
        · rename_i b o hp
          obtain ⟨cap, rfl, _⟩ := hv
          have hln : l.len ≠ 0 := by rw [h1]; intro h0; exact hne (List.eq_nil_of_length_eq_zero h0)
          simp only [evBuiltin, if_neg hln, resV]
          have := GR.elm (Γ := Γ) (Pu := Pu) (I := I) (i := 0) (off := 0) hl hp
          rw [Nat.add_zero] at this
          exact Good.same hs h this
      cases em with
      | false =>
        simp only [cond_false] at h
        replace h := need_some h; obtain ⟨hn, h⟩ := h
        exact some_ (by simpa using hn) h
      | true =>
        simp only [cond_true] at h
        rcases sel_some h with ⟨hz, h⟩ | ⟨hz, h⟩
        · have hx0 : xs = [] := by simpa using hz
          obtain ⟨_, _, _, ⟨hp, _⟩ | ⟨b, o, vs, f, ex, sd, hp, hne, _⟩⟩ := ho
          · unfold SlV at hv; rw [hp] at hv
            obtain ⟨rfl, _⟩ := hv
            simp only [evBuiltin, resV]
            exact Good.same hs h (.raw _)
          · exact absurd hx0 (hne rfl)
        · exact some_ (by intro h0; rw [h0] at hz; cases hz) h
    · cases h
  · cases h

theorem gUString_ok (hs : Sim P hint Γ Pu H I) {p n : TV} {p' n' : Value} {at0 : Array TypeId} {ty : TypeId} (h : gUString std P H at0 p n K = some r) (hp : GR Γ Pu I p p') (hn : GR Γ Pu I n n') (ha : at0[0]?.isSome = true) : Good P hint K r Γ Pu H I (resV (evBuiltin P I .unsafeString at0 ty [p', n'])) := by
  unfold gUString at h
  split at h
  · cases hp; cases hn
    replace h := need_some h; obtain ⟨hz, h⟩ := h
    have hz' : ‹Int› = 0 := by simpa using hz
    simp only [evBuiltin, ha, if_true, evUString, if_pos hz', resV]
    exact Good.same hs h (.str [])
  · rename_i id n
    cases hp with | elm hl hpos =>
    cases hn
    rename_i b o l
    split at h
    · rename_i et e xs w em pt hg hpt
      split at h
      · rename_i hh _
        subst hh
        replace h := bif_some h; obtain ⟨hb, h⟩ := h
        replace hb := Go.Gv.and_true hb; obtain ⟨hb1, hb2⟩ := hb
        replace h := need_some h; obtain ⟨hn, h⟩ := h
        replace hn := Go.Gv.and_true hn; obtain ⟨hn, hn3⟩ := hn
        replace hn := Go.Gv.and_true hn; obtain ⟨hn1, hn2⟩ := hn
        have n1 := ile_true hn1
        have n2 := ile_true hn2
        have n3 := ile_true hn3
        obtain ⟨l', hl', ho⟩ := hs.obj _ _ hg
        cases hl.symm.trans hl'
        obtain ⟨h1, h2, h3, h4 | ⟨b', o', vs, f, ex, sd, hp2, he, hgb, ht, hbl, hrows, hfz, hpu⟩⟩ := ho
        · rw [h4.1] at hpos; cases hpos
        · cases hpos.symm.trans hp2
          obtain ⟨w1, w2, w3, w4⟩ := hfz rfl
          subst w2
          have hsz : l.sz = 1 := h2
          have hrow : Row Pu I .byte xs vs o := hrows
          have hcut := hrow.cut xs.length (Nat.le_refl _)
          simp only [Sh.sz, Nat.mul_one] at hcut hbl w3
          have hby := hcut.byte (by simp; omega)
          have htk : (vs.drop o).take n.toNat = (xs.take n.toNat).map fun c => (.int .u8 c.toNat : Value) := by
            rw [List.map_take, ← hby, List.take_take]
            congr 1
            have hnx : n.toNat ≤ xs.length := by
              have : (n : Int) ≤ (xs.length : Int) := n2
              omega
            omega
          have hnx : n.toNat ≤ xs.length := by
            have : (n : Int) ≤ (xs.length : Int) := n2
            omega
          have hnp : ¬ Pu b := hs.sep b ⟨id, _, l, o, hg, rfl, hl, hpos⟩
          have turned : ∀ f', f' ≤ o + xs.length → Sim P hint Γ Pu (H.put id (.arr et .byte xs false false em)) (I.put b (.cells vs et f' ex false)) ∧ Ex (Own Γ H) Γ Pu H I Γ Pu (H.put id (.arr et .byte xs false false em)) (I.put b (.cells vs et f' ex false)) := by
            intro f' hf'
            have k : Keep Γ Pu I Γ Pu (I.put b (.cells vs et f' ex false)) := ⟨fun _ _ h => h, fun _ h => h, fun b' hb' => by rw [IH.get_put, if_neg (by rintro rfl; exact hnp hb')]⟩
            exact hs.turn hg rfl hl hpos (.arr et .byte xs false false em) (.cells vs et f' ex false)
              ⟨h1, h2, h3, .inr ⟨b, o, vs, f', ex, false, hpos, he, by rw [IH.get_put, if_pos rfl], ht, by simp only [Sh.sz, Nat.mul_one]; omega, fun i x hi => (hrows i x hi).mono k.p k.i, fun _ => ⟨w1, rfl, by simp only [Sh.sz, Nat.mul_one]; exact hf', fun h => by cases h⟩, fun h => by cases h⟩⟩
          simp only [hsz, Nat.zero_mul, Nat.add_zero]
          by_cases hz : n = 0
          · subst hz
            simp only [evBuiltin, ha, if_true, evUString, resV]
            obtain ⟨s1, e1⟩ := turned f w3
            have hself : ∀ k, I.get k = (I.put b (.cells vs et f ex false)).get k := fun k => (IH.put_self_get I hgb k).symm
            exact ⟨_, _, _, _, _, _, h, rfl, .str [], s1.congrI hself rfl, e1.congrI hself rfl⟩
          · obtain ⟨s1, e1⟩ := turned (max f (o + n.toNat)) (by omega)
            have hc : (decide (roN ≤ b) && !false && decide (0 ≤ n) && decide (n ≤ (roomy : Int)) && decide (o + n.toNat ≤ vs.length) && (P.cellsOf et == 1) && isPtrTo P pt et) = true := by
              simp [w1, n1, n3, beq_true hb1, hb2]; omega
            simp only [evBuiltin, evUString, if_neg hz, hgb, hpt, htk, bytesOf_map]
            rw [if_pos hc]
            exact ⟨_, _, _, _, _, _, h, rfl, .str _, s1, e1⟩
      · cases h
    · cases h
  · cases h

/-- Numbers one by one. -/
theorem foldInts_ok {f : Int → Int → Int} {g : Value → Value → Sem Value} (hg : ∀ k n k' m, g (.int k n) (.int k' m) = pure (.int k (f n m))) : ∀ {l : List TV} {l' : List Value} {k : IntKind} {n : Int} {v : TV}, foldInts f k n l = some v → GRs Γ Pu I l l' →
    ∃ m, v = .int k m ∧ runP P (l'.foldlM g (.int k n)) = some (.int k m) ∧ l'.all free1 = true := by
  intro l
  induction l with
  | nil => intro l' k n v h hr; cases hr; unfold foldInts at h; cases h; exact ⟨n, rfl, rfl, rfl⟩
  | cons t l ih =>
    intro l' k n v h hr
    cases hr with | cons a b =>
    unfold foldInts at h
    split at h
    · rename_i heq; cases heq
    · rename_i k0 n0 k' m rest heq
      cases heq
      cases a
      split at h
      · rename_i hk
        subst hk
        obtain ⟨m', e1, e2, e3⟩ := ih h b
        refine ⟨m', e1, ?_, by simp [free1, e3]⟩
        rw [List.foldlM_cons, hg]
        exact e2
      · cases h
    · cases h

theorem gMaxMin_ok (hs : Sim P hint Γ Pu H I) {f : Int → Int → Int} {g : Value → Value → Sem Value} (hg : ∀ k n k' m, g (.int k n) (.int k' m) = pure (.int k (f n m))) {l : List TV} {l' : List Value} {s : Sem Value} (hsm : ∀ x rest, l' = x :: rest → s = rest.foldlM g x) (h : gMaxMin H f l K = some r) (hl : GRs Γ Pu I l l') :
    Good P hint K r Γ Pu H I (resV (if l'.all free1 then evPlainRun P I s else none)) := by
  unfold gMaxMin at h
  split at h
  · rename_i k n rest
    cases hl with | cons a b =>
    cases a
    split at h
    · rename_i v hv
      obtain ⟨m, rfl, e2, e3⟩ := foldInts_ok (P := P) hg hv b
      rw [if_pos (by simp [free1, e3]), hsm _ _ rfl]
      simp only [evPlainRun, e2, free1, if_true, resV]
      exact Good.same hs h (.int _ _)
    · cases h
  · cases h

theorem gExtern_ok (hs : Sim P hint Γ Pu H I) {fn : Func} {args : List TV} {args' : List Value} (h : gExtern H fn args K = some r) (ha : GRs Γ Pu I args args') : Good P hint K r Γ Pu H I (evExtern P I fn args') := by
  unfold gExtern at h
  split at h
  · cases h
  · rename_i h0
    split at h
    · rename_i h1
      split at h
      · cases ha with | cons a b =>
        cases b
        simp only [evExtern, if_neg h0, if_pos h1]
        exact Good.same hs h a
      · cases h
    · rename_i h1
      split at h
      · rename_i h2
        split at h
        · cases ha with | cons a b =>
          cases b with | cons b c =>
          cases c; cases a; cases b
          rename_i s c
          have e : UInt8.ofNat (Int.toNat (c.toNat : Int)) = c := by simp
          split at h
          · rename_i i hi
            simp only [evExtern, if_neg h0, if_neg h1, if_pos h2, e, bl_ba, hi]
            exact Good.same hs h (.int _ _)
          · rename_i hi
            simp only [evExtern, if_neg h0, if_neg h1, if_pos h2, e, bl_ba, hi]
            exact Good.same hs h (.int _ _)
        · cases h
      · rename_i h2
        split at h
        · rename_i h3
          split at h
          · cases ha with | cons a b =>
            cases b with | cons b c =>
            cases c; cases a; cases b
            rename_i s c
            have e : UInt8.ofNat (Int.toNat (c.toNat : Int)) = c := by simp
            simp only [evExtern, if_neg h0, if_neg h1, if_neg h2, if_pos h3, e, bl_ba]
            exact Good.same hs h (.int _ _)
          · cases h
        · cases h
end
end Go.Gv
