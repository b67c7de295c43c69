/- Lists whose elements hold lists: new ones. -/
import Derived.Test.YtoiiimbhfdnomaaDoorGvNestE
import Derived.Test.YtoiiimbhfdnomaaDoorGvOpsY
set_option linter.unusedSimpArgs false
set_option linter.unusedVariables false
namespace Go.Gv
open Go Go.Iv
section
variable {β : Type} {P : Program} {hint : Hint} {sh : ShT} {Γ Γ1 Γ' : Gam} {Pu Pu1 : Nat → Prop} {H H1 : GH} {I I1 I' : IH} {K : TV → GH → Option β} {r : β}
theorem nest_new (hs : Sim P hint sh Γ Pu H I) {e net : TypeId} {s ne : Sh} {no : Nat} {xs : List s.ty} {cs : List Value} (hok : okN s no ne = true) (hlen : cs.length = xs.length * s.sz) (hrow : Row Pu I s xs cs 0)
    (hnil : ∀ i x, xs[i]? = some x → nestGet s no ne x = [] ∧ cs[i * s.sz + no]? = some (.slice none 0 0)) (cap : Nat) (hcap : CapOK cap s.sz xs.length 0 cs.length) :
    Sim P hint sh (Γ.up H.n ⟨some (I.n, 0), xs.length, s.sz, cs.length⟩) Pu (H.new (.nest e s no net ne xs .no none)) (I.new (.cells cs e 0 true false)) ∧
      Ex (Own Γ H I) Γ Pu H I (Γ.up H.n ⟨some (I.n, 0), xs.length, s.sz, cs.length⟩) Pu (H.new (.nest e s no net ne xs .no none)) (I.new (.cells cs e 0 true false)) ∧
      GR (Γ.up H.n ⟨some (I.n, 0), xs.length, s.sz, cs.length⟩) Pu (I.new (.cells cs e 0 true false)) (.all H.n) (.slice (some ⟨I.n, 0, none⟩) xs.length cap) := by
  have hk := keep_new hs ⟨some (I.n, 0), xs.length, s.sz, cs.length⟩ (.cells cs e 0 true false)
  have hnb : ∀ b i, ¬ NB (I.new (.cells cs e 0 true false)) ⟨some (I.n, 0), xs.length, s.sz, cs.length⟩ s.sz no none b i := by
    rintro b i ⟨_, n2, b2, o2, vs2, et2, f2, ex2, sd2, hp2, hg2, hv2⟩
    cases hp2
    rw [IH.get_new, if_pos rfl] at hg2
    cases hg2
    rw [Nat.zero_add, (hnil i _ (List.getElem?_eq_getElem n2)).2] at hv2
    cases hv2
  obtain ⟨s1, e1⟩ := hs.new (.nest e s no net ne xs .no none) (.cells cs e 0 true false) ⟨some (I.n, 0), xs.length, s.sz, cs.length⟩ 0 rfl
    ⟨rfl, rfl, s.sz_pos, hok, .inr ⟨I.n, 0, cs, 0, true, rfl, (fun h => by cases h), by rw [IH.get_new, if_pos rfl], rfl, by omega, hs.ro, Nat.le_refl _,
      fun i x hi => by
        have h1 := (hrow i x hi).tvs (Γ := Γ)
        have h2 := h1.set no (GR.undef (Γ := Γ) (Pu := Pu) (I := I) ((cs.drop (0 + i * s.sz)).take s.sz)[no]!)
        have : ((cs.drop (0 + i * s.sz)).take s.sz).set no ((cs.drop (0 + i * s.sz)).take s.sz)[no]! = (cs.drop (0 + i * s.sz)).take s.sz := by
          have hl := h1.length
          rw [tvs_len] at hl
          have hlt := (okN_at hok).1
          apply set_same
          rw [List.getElem?_eq_getElem (by omega), getElem!_pos _ _ (by omega)]
        rw [this] at h2
        exact h2.mono hk,
      fun i x v hi _ hv => by
        obtain ⟨a1, a2⟩ := hnil i x hi
        rw [Nat.zero_add, a2] at hv
        cases hv
        exact ⟨⟨none, 0, ne.sz, 0⟩, ⟨by rw [a1]; rfl, rfl, ne.sz_pos, .inl ⟨rfl, a1, by simp⟩⟩, rfl, rfl⟩,
      (fun _ _ _ h => by cases h), fun i j b n1 _ => absurd n1 (hnb b i), fun i n1 => hnb _ i n1⟩⟩
    (fun b ⟨i, hi⟩ => hnb b i hi)
  refine ⟨s1, e1, .all (l := ⟨some (I.n, 0), xs.length, s.sz, cs.length⟩) (by simp [Gam.up]) ?_⟩
  exact ⟨cap, by simp, by simpa using hcap⟩
theorem isNilT_ok {l : List TV} {vs : List Value} {i : Nat} (h : isNilT l[i]? = true) (hr : GRs Γ Pu I l vs) : vs[i]? = some (.slice none 0 0) := by
  unfold isNilT at h
  split at h
  · rename_i heq
    obtain ⟨v, h1, h2⟩ := hr.get heq
    rw [h1, nil_of h2]
  · cases h
theorem nilAll_ok {no sz : Nat} : ∀ {n : Nat} {l : List TV} {vs : List Value}, nilAll no sz n l = true → GRs Γ Pu I l vs → ∀ i, i < n → vs[i * sz + no]? = some (.slice none 0 0) := by
  intro n
  induction n with
  | zero => intro l vs _ _ i hi; omega
  | succ n ih =>
    intro l vs h hr i hi
    unfold nilAll at h
    replace h := Go.Gv.and_true h
    cases i with
    | zero => rw [Nat.zero_mul, Nat.zero_add]; exact isNilT_ok h.1 hr
    | succ i =>
      have := ih h.2 (hr.drop sz) i (by omega)
      rw [List.getElem?_drop] at this
      rw [← this]
      congr 1
      rw [Nat.add_mul, Nat.one_mul]; omega
theorem reps_get {z : List Value} : ∀ {n i k : Nat}, i < n → k < z.length → (reps z n)[i * z.length + k]? = z[k]? := by
  intro n
  induction n with
  | zero => intro i k h; omega
  | succ n ih =>
    intro i k hi hk
    unfold reps
    cases i with
    | zero => rw [Nat.zero_mul, Nat.zero_add, List.getElem?_append_left hk]
    | succ i =>
      rw [List.getElem?_append_right (by rw [Nat.add_mul, Nat.one_mul]; omega), ← ih (i := i) (by omega) hk]
      congr 1
      rw [Nat.add_mul, Nat.one_mul]; omega
theorem gMakeSliceN_ok (hs : Sim P hint sh Γ Pu H I) {t : TypeId} {eq : Bool} {l c : TV} {l' c' : Value} (h : gMakeSliceN std P sh H t eq l c K = some r) (hl : GR Γ Pu I l l') (hc : GR Γ Pu I c c') (heq : eq = true → l = c) : Good P hint sh K r Γ Pu H I (resV (evMakeSlice P I t l' c')) := by
  unfold gMakeSliceN at h
  split at h
  · exact gMakeSlice_ok hs h hl hc heq
  · rename_i no net _
    split at h
    · rename_i e i l c he
      cases hl; cases hc
      split at h
      · rename_i z s ne hz hsh hne
        replace h := bif_some h; obtain ⟨hb, h⟩ := h
        replace hb := Go.Gv.and_true hb; obtain ⟨hb, hb5⟩ := hb
        replace hb := Go.Gv.and_true hb; obtain ⟨hb, hok⟩ := hb
        replace hb := Go.Gv.and_true hb; obtain ⟨hb, hb3⟩ := hb
        replace hb := Go.Gv.and_true hb; obtain ⟨hb1, hb2⟩ := hb
        have k1 := beq_true hb1
        have k3 := beq_true hb3
        split at h
        · rename_i zz hzz
          replace h := bif_some h; obtain ⟨hz0, h⟩ := h
          replace hz0 := Go.Gv.and_true hz0; obtain ⟨hz1, hz2⟩ := hz0
          replace h := need_some h; obtain ⟨hn, h⟩ := h
          replace hn := Go.Gv.and_true hn; obtain ⟨hn, hn3⟩ := hn
          replace hn := Go.Gv.and_true hn; obtain ⟨hn1, hn2⟩ := hn
          have n1 := ile_true hn1
          have n2 := ile_true hn2
          have n3 := ile_true hn3
          have hzr := convL_ok (Γ := Γ) (Pu := Pu) (I := I) hb2
          have henc := Sh.ofAll_ok hzz hzr
          obtain ⟨q1, q2⟩ := reps_row henc c.toNat
          have hsz := s.sz_pos
          have hcu : c.toNat < unk := by
            have : c ≤ c * ((i.bytes : Int) + 1) := by
              have h0 : 0 ≤ c := by omega
              have : c * 1 ≤ c * ((i.bytes : Int) + 1) := Int.mul_le_mul_of_nonneg_left (by omega) h0
              omega
            unfold unk
            have h1 : (roomy : Int) < 2 ^ 64 := by unfold roomy; decide
            have h2 : (2 : Int) ^ 64 = ((2 ^ 64 : Nat) : Int) := by decide
            omega
          have hzl : z.cells.toList.length = s.sz := henc.len
          obtain ⟨s2, e2, r2⟩ := nest_new hs (e := e) (net := net) (xs := List.replicate c.toNat zz) (cs := reps z.cells.toList c.toNat) hok (by rw [List.length_replicate]; exact q1) q2
            (fun j x hx => by
              rw [List.getElem?_replicate] at hx
              split at hx
              · rename_i hj
                cases hx
                refine ⟨List.isEmpty_iff.1 hz1, ?_⟩
                rw [← hzl, reps_get hj (by rw [hzl]; exact (okN_at hok).1)]
                exact isNilT_ok hz2 hzr
              · cases hx)
            c.toNat (.inr ⟨hcu, by simp, by rw [q1]; omega⟩)
          have hev : evMakeSlice P I t (.int .i64 l) (.int .i64 c) = some (.val (.slice (some ⟨I.n, 0, none⟩) l.toNat c.toNat) (newCells I e (reps z.cells.toList c.toNat))) := by
            simp only [evMakeSlice, he, hz]
            rw [if_pos (by simp [n1, n2]; exact n3), if_pos k1]
          rw [hev]
          simp only [resV]
          have := heq hb5
          cases this
          rw [List.length_replicate] at r2 s2 e2
          exact ⟨_, _, _, _, _, _, h, rfl, r2, s2, e2⟩
        · cases h
      · cases h
    · cases h
theorem gBuildSliceN_ok (hs : Sim P hint sh Γ Pu H I) {t : TypeId} {len : Nat} {ps : List (Nat × TV)} {ps' : List (Nat × Value)} (h : gBuildSliceN P sh H t len ps K = some r) (hp : PsG Γ Pu I ps ps') : Good P hint sh K r Γ Pu H I (resV (evBuildSlice P I t len ps')) := by
  unfold gBuildSliceN at h
  split at h
  · exact gBuildSlice_ok hs h hp
  · rename_i no net _
    split at h
    · rename_i e i he
      replace h := bif_some h; obtain ⟨hb, h⟩ := h
      replace hb := Go.Gv.and_true hb; obtain ⟨hb1, hb2⟩ := hb
      split at h
      · rename_i z s ne hz hsh hne
        replace h := bif_some h; obtain ⟨hc, h⟩ := h
        replace hc := Go.Gv.and_true hc; obtain ⟨hc, hok⟩ := hc
        replace hc := Go.Gv.and_true hc; obtain ⟨hc, hc3⟩ := hc
        replace hc := Go.Gv.and_true hc; obtain ⟨hc1, hc2⟩ := hc
        have k1 := beq_true hc1
        have k3 := beq_true hc3
        split at h
        · rename_i cells hf
          obtain ⟨vs', hf', hr'⟩ := fillG_ok (vs := ⟨reps z.cells.toList len⟩) hf hb2 hp (repG_ok (convL_ok hc2) len)
          split at h
          · rename_i cells' H1 hpl
            obtain ⟨Pu1, s1, e1, r1⟩ := pureL_ok hs hpl hr'
            split at h
            · rename_i xs hx
              replace h := bif_some h; obtain ⟨hn, h⟩ := h
              replace hn := Go.Gv.and_true hn; obtain ⟨hn1, hn2⟩ := hn
              obtain ⟨a1, a2, a3⟩ := rowsOf_ok hx r1
              have hsz := s.sz_pos
              have a2' : vs'.toList.length = xs.length * s.sz := by rw [a1]; exact a2
              have hlu : len < unk := by
                have := ble_true hb1
                have h2 : len ≤ len * (i.size + 1) := Nat.le_mul_of_pos_right _ (by omega)
                unfold unk
                have : (2 : Nat) ^ 24 < 2 ^ 64 := by decide
                omega
              obtain ⟨s2, e2, r2⟩ := nest_new s1 (e := e) (net := net) (xs := xs) (cs := vs'.toList) hok a2' a3
                (fun j x hj => by
                  refine ⟨List.isEmpty_iff.1 ?_, nilAll_ok hn2 r1 j (by rw [← a1]; exact (List.getElem?_eq_some_iff.1 hj).1)⟩
                  rw [List.all_eq_true] at hn1
                  exact hn1 x (List.mem_of_getElem? hj))
                len (.inr ⟨hlu, by omega, by rw [a2]; omega⟩)
              have : evBuildSlice P I t len ps' = some (.val (.slice (some ⟨I.n, 0, none⟩) len len) (newCells I e vs'.toList)) := by
                simp only [evBuildSlice, he, hz]
                rw [if_pos (by simp [hp.ok hb2]; exact ble_true hb1), if_pos k1, hf']
              rw [this]
              rw [a1] at r2 s2 e2
              simp only [resV]
              exact ⟨_, _, _, _, _, _, h, rfl, r2, s2, Ex.trans hs s1 e1 e2⟩
            · cases h
          · cases h
        · cases h
      · cases h
    · cases h
end
end Go.Gv
