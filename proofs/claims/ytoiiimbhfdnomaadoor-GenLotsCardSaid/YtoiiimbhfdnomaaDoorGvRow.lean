/- From a row's world to the pure functions: the first heap with a list of the caller's in it, the whole law. -/
import Derived.Test.YtoiiimbhfdnomaaDoorGvLoop
import Derived.Test.YtoiiimbhfdnomaaDoorIvRow
import Derived.ChangeSlices
namespace Go.Gv
open Go Go.Iv Go.RowKit

variable {P : Program} {hint : Hint}

/-! ### The first heap, with blocks of the caller's -/
def startG2 (φ : Nat → Nat × Nat) (m : Nat) : Ga := ⟨fun i => if i < glN then (i, 0) else φ i, fun i => i < glN + m⟩

def Holds2 (w : World) (p : Nat × Nat) (x : GV) : Prop := ∃ cs f, w.heap[p.1]? = some (.cells cs x.2.1 f) ∧ p.2 + x.2.2.length ≤ cs.size ∧ ∀ (i : Nat) (v : Value), x.2.2[i]? = some v → cs[p.2 + i]? = some v

theorem startH_get {l : List GV} {b : Nat} {o : IObj} (h : (startH l).get b = some o) : ∃ x ∈ l, x.1 = b ∧ o = .cells x.2.2 x.2.1 0 false false :=
  startT_get (by rw [← h, IH.get_eq]; rfl)

theorem start_rh2 {w : World} {l : List GV} {φ : Nat → Nat × Nat} {m : Nat} (hm : glN + m ≤ roN) (hl : ∀ x ∈ l, x.1 < glN + m ∧ x.2.2.all free1 = true ∧ Holds2 w ((startG2 φ m).φ x.1) x)
    (hi : ∀ x ∈ l, ∀ y ∈ l, ((startG2 φ m).φ x.1).1 = ((startG2 φ m).φ y.1).1 → x.1 = y.1) : Rh (startG2 φ m) (startH l) w := by
  refine ⟨fun b hb => Nat.lt_of_lt_of_le hb hm, Nat.le_refl _, fun g hg => ⟨Nat.lt_of_lt_of_le hg (Nat.le_add_right _ _), by show (if g < glN then (g, 0) else φ g) = (g, 0); rw [if_pos hg]⟩, fun b o h => ?_, fun b b' o o' h h' e => ?_, fun b o h => ?_⟩
  · obtain ⟨x, hx, rfl, _⟩ := startH_get h; exact (hl x hx).1
  · obtain ⟨x, hx, rfl, _⟩ := startH_get h
    obtain ⟨y, hy, rfl, _⟩ := startH_get h'
    exact hi x hx y hy e
  · obtain ⟨x, hx, rfl, rfl⟩ := startH_get h
    obtain ⟨h1, h2, cs, ⟨lo, hi'⟩, h3, h4, h5⟩ := hl x hx
    refine ⟨cs, lo, hi', h3, h4, fun i v hv => ⟨v, h5 i v hv, .of_free1 (List.all_eq_true.1 h2 v (List.mem_of_getElem? hv))⟩, fun x => (by cases x), fun hro => ?_, fun x => (by cases x)⟩
    omega

theorem start_ext2 {w w' : World} {l : List GV} {φ : Nat → Nat × Nat} {m : Nat} {Γ' : Ga} {H' : IH} (hl : ∀ x ∈ l, x.1 < roN) (h : Iv.Ext (startG2 φ m) (startH l) w Γ' H' w') : Below w.heap.size w w' := by
  refine ⟨h.os, h.tape, h.output, h.size, fun k hk => h.keep k hk ?_⟩
  rintro ⟨i, o, hro, hi, _⟩
  obtain ⟨x, hx, rfl, _⟩ := startH_get hi
  have h1 := hl x hx
  omega

def startΓ : Gam := fun g => if g < glN then some ⟨some (g, 0), 0, 1, 0⟩ else none

theorem start_sim {l : List GV} {Pu : Nat → Prop} (hl : ∀ x ∈ l, x.1 < roN) (hp : ∀ b, Pu b → ∃ cs et fz ex sd, (startH l).get b = some (.cells cs et fz ex sd)) : Sim P hint startΓ Pu H0 (startH l) where
  obj := fun id o h => by rw [H0_get] at h; cases h
  inj := fun id id' o o' l l' b x x' h => by rw [H0_get] at h; cases h
  sep := fun b ⟨id, o, l, x, h, _⟩ => by rw [H0_get] at h; cases h
  dom := fun id l h => by
    unfold startΓ at h
    split at h
    · rename_i hg; exact Nat.lt_trans hg (by decide)
    · cases h
  fresh := fun b hb => by
    cases h : (startH l).get b with
    | none => rfl
    | some o =>
      obtain ⟨x, hx, rfl, _⟩ := startH_get h
      have h1 : roN ≤ x.1 := hb
      have := hl x hx
      omega
  pu := hp
  ro := Nat.le_refl _
  gn := by decide
  glob := fun g hg => ⟨_, by unfold startΓ; rw [if_pos hg], rfl⟩
  st := fun id s h => by cases h

/-! ### The whole law -/
theorem law_gv (hng : noNG P = true) (hm : P.follows .mixedOrders = true) {it : FnIt} {n : Nat} (hok : FnOK P hint it n) {x : argsTy it.pa} {y : argsTy it.re} (hF : it.F n x = some y)
    (hy : ∀ {Γ : Gam} {Pu : Nat → Prop} {I : IH} {v : Value}, GR Γ Pu I (resTV (encA it.re y)) v → v = .bool true)
    {l : List GV} {φ : Nat → Nat × Nat} {m : Nat} {w : World} (hR : Rh (startG2 φ m) (startH l) w) (hl : ∀ x ∈ l, x.1 < roN) {Pu : Nat → Prop} (hp : ∀ b, Pu b → ∃ cs et fz ex sd, (startH l).get b = some (.cells cs et fz ex sd))
    {vs : List Value} (hd : Dats Pu (startH l) it.pa x vs) {args : Array Value} (hv : VRs (startG2 φ m) w vs args.toList) :
    Calls P it.f args w fun e w' => e = .returned (.bool true) ∧ Below w.heap.size w w' := by
  obtain ⟨Pu1, I1, v, r1, r2, _⟩ := hok.run hF (start_sim (P := P) (hint := hint) hl hp) hd
  have hb := hy (r2 startΓ)
  subst hb
  have hc : (ev P hint noSpec (n + it.D + 1)).call it.f vs (startH l) = some (.returned (.bool true), I1) := by
    show evCallS P hint noSpec (ev P hint noSpec (n + it.D)) it.f vs (startH l) = _
    unfold evCallS
    simp only [noSpec]
    exact r1
  have := (ev_sound hng (draw_ok hm hng) (noSpec_ok P) (n + it.D + 1)).1.call hc hR hv
  refine (callsIn_wide.1 this).mono ?_
  rintro e1 w1 ⟨Γ1, he, _, hE⟩
  cases he with
  | returned hv => rw [hv.boolE]; exact ⟨rfl, start_ext2 hl hE⟩

/-! ### A list of the caller's -/
theorem cell_at {w : World} {a : Addr} {i : Nat} {v : Value} (hs : a.spot = none) (h : w.cell? (a.add i) = some v) : ∃ cs e f, w.heap[a.block]? = some (.cells cs e f) ∧ cs[a.off + i]? = some v := by
  have ha : a.add i = ⟨a.block, a.off + i, none⟩ := by
    obtain ⟨b, o, s⟩ := a
    simp only at hs
    subst hs
    unfold Addr.add
    split
    · rename_i h0; subst h0; rfl
    · rfl
  rw [ha] at h
  unfold World.cell? at h
  simp only at h
  split at h
  · rename_i cs e f hb
    exact ⟨cs, e, f, hb, by simpa using h⟩
  · cases h

theorem list_start {w : World} {a : Addr} {len cap row cells : Nat} {vals : List Value} (hlen : vals.length = cap) (hlc : len ≤ cap) (hfree : vals.all free1 = true) (hs : a.spot = none) (hsh : w.shape? a.block = some (row, cells))
    (hcell : ∀ i v, vals[i]? = some v → w.cell? (a.add i) = some v) :
    ∃ φ et, Rh (startG2 φ 1) (startH [(32, et, vals)]) w ∧ VR (startG2 φ 1) w (.slice (some ⟨32, 0, none⟩) len (unk + 1)) (.slice (some a) len cap) := by
  have hdom : ∀ φ, (startG2 φ 1).dom 32 := fun φ => by show 32 < glN + 1; decide
  have hφ : ∀ φ, (startG2 φ 1).φ 32 = φ 32 := fun φ => by show (if 32 < glN then (32, 0) else φ 32) = φ 32; rw [if_neg (by decide)]
  have hrh : ∀ (φ : Nat → Nat × Nat) (et : TypeId), Holds2 w (φ 32) (32, et, vals) → Rh (startG2 φ 1) (startH [(32, et, vals)]) w := by
    intro φ et h
    refine start_rh2 (by decide) (fun x hx => ?_) (fun x hx y hy _ => ?_)
    · rcases List.mem_singleton.1 hx with rfl
      exact ⟨by show 32 < glN + 1; decide, hfree, by rw [hφ]; exact h⟩
    · rcases List.mem_singleton.1 hx with rfl
      rcases List.mem_singleton.1 hy with rfl
      rfl
  have hblk : ∃ cs et f, w.heap[a.block]? = some (.cells cs et f) := by
    unfold World.shape? at hsh
    split at hsh
    · rename_i cs e f hb; exact ⟨cs, e, f, hb⟩
    · cases hsh
  obtain ⟨cs, et, f, hb⟩ := hblk
  rcases Nat.eq_zero_or_pos cap with h0 | h0
  · subst h0
    have hv : vals = [] := List.length_eq_zero_iff.1 hlen
    subst hv
    have hl0 : len = 0 := by omega
    subst hl0
    refine ⟨fun _ => (a.block, 0), et, hrh _ _ ⟨cs, f, hb, by simp, fun i v hv => by simp at hv⟩, .sliceU (hdom _) (Nat.le_refl _) (.inl ⟨rfl, rfl, by rw [hφ]⟩)⟩
  · have each : ∀ i v, vals[i]? = some v → cs[a.off + i]? = some v := by
      intro i v hv
      obtain ⟨cs', e', f', hb', h'⟩ := cell_at hs (hcell i v hv)
      cases hb.symm.trans hb'
      exact h'
    have hroom : a.off + cap ≤ cs.size := by
      have hlast : ∃ v, vals[cap - 1]? = some v := ⟨_, List.getElem?_eq_getElem (by omega)⟩
      obtain ⟨v, hv⟩ := hlast
      have := each _ _ hv
      have := (Array.getElem?_eq_some_iff.1 this).1
      omega
    refine ⟨fun _ => (a.block, a.off), et, hrh _ _ ⟨cs, f, hb, by simp only [hlen]; exact hroom, each⟩, .sliceU (hdom _) hlc (.inr ⟨?_, cs, et, f, hb, by simpa using hroom⟩)⟩
    obtain ⟨b, o, s⟩ := a
    simp only at hs
    subst hs
    simp only [Ga.at, hφ, Nat.add_zero]

theorem list_enc {e : Sh} {xs : List e.ty} {et : TypeId} {vals : List Value} (he : e.sz = 1) (hl : xs.length ≤ vals.length) (hx : ∀ (i : Nat) (x : e.ty), xs[i]? = some x → ∃ v, vals[i]? = some v ∧ ∀ {Pu : Nat → Prop} {I : IH}, Enc Pu I e x [v]) :
    Enc (· = 32) (startH [(32, et, vals)]) (.slc e) xs [.slice (some ⟨32, 0, none⟩) xs.length (unk + 1)] := by
  unfold Enc
  refine .inr ⟨32, 0, unk + 1, vals, et, 0, false, false, rfl, rfl, rfl, .inl (by rw [he]), by rw [he]; omega, fun i x hi => ?_⟩
  obtain ⟨v, hv, h⟩ := hx i x hi
  have : (vals.drop (0 + i * e.sz)).take e.sz = [v] := by
    rw [he, Nat.zero_add, Nat.mul_one]
    have hlt := (List.getElem?_eq_some_iff.1 hv).1
    rw [List.drop_eq_getElem_cons hlt]
    simp only [List.take_succ_cons, List.take_zero]
    have := (List.getElem?_eq_some_iff.1 hv).2
    rw [this]
  rw [this]
  exact h

theorem list_pu {et : TypeId} {vals : List Value} : ∀ b, b = 32 → ∃ cs et' fz ex sd, (startH [(32, et, vals)]).get b = some (.cells cs et' fz ex sd) := fun b hb => by
  subst hb; exact ⟨vals, et, 0, false, false, rfl⟩
end Go.Gv

namespace Go.Gv
open Go Go.Iv Go.RowKit Go.ChangeShapes Go.WideShapes
variable {P : Program} {hint : Hint} {H : Type} {enc : TypeId × Value → H}

/-- A list of whole numbers that nobody has turned is read as it was. -/
theorem ints_keep {t e : TypeId} {k : IntKind} {W W' : World} {v : Value} {d : DataW H} {ps : List MemPlace} (ht : P.underlying t = some (.slice e)) (he : P.underlying e = some (.int k)) (hc : P.cellsOf e = 1)
    (h : DataW.Trod enc P W 0 (fun _ => true) true t v d ps) (hb : Below W.heap.size W W') (sp : Nat → Bool) (hsp : ∀ p ∈ ps, sp p.block = true) : DataW.Trod enc P W' 0 sp true t v d ps := by
  obtain ⟨fuel, h⟩ := h
  rcases open_ints ht he hc h with ⟨h1, h2⟩ | ⟨a, len, cap, zs, h1, h2, h3, h4, h5, h6, h7, h8⟩
  · cases h2
    refine ⟨1, ?_⟩
    rw [h1, DataW.trod_step]
    unfold DataW.trodStep
    simp only [ht]
  · cases h6
    rw [if_pos rfl] at h5
    refine ⟨2, ?_⟩
    rw [h1]
    refine shut_ints 0 ht he hc (Nat.zero_le _) h3 h4 ?_ (fun i hi => ?_) h8
    · rcases Nat.eq_zero_or_pos cap with h0 | h0
      · subst h0
        have : len = 0 := by omega
        subst this
        rw [h5]; split <;> rfl
      · have : sp a.block = true := hsp (.cell a.block (a.off + 0)) (by
          unfold MemPlace.row
          exact List.mem_map.2 ⟨0, List.mem_range.2 (by omega), rfl⟩)
        rw [if_pos this, h5]
    · have hh := h7 i hi
      have hlt := World.block_lt_of_cell? W _ hh
      rw [hb.cell hlt]
      exact hh

/-- A list of whole numbers: for the pure functions. -/
theorem ints_start {t e : TypeId} {k : IntKind} {s : Sh} (_hk : s = .int k) {W : World} {v : Value} {d : DataW H} {ps : List MemPlace} (ht : P.underlying t = some (.slice e)) (he : P.underlying e = some (.int k)) (hc : P.cellsOf e = 1) (hv : v.cells.toList = [v])
    (hval : Value.okWide P W .any 0 t v) (h : DataW.Trod enc P W 0 (fun _ => true) true t v d ps) :
    ∃ (xs : List Int) (l : List GV) (φ : Nat → Nat × Nat) (m : Nat) (Pu : Nat → Prop) (v' : Value), Rh (startG2 φ m) (startH l) W ∧ (∀ x ∈ l, x.1 < roN) ∧ (∀ b, Pu b → ∃ cs et fz ex sd, (startH l).get b = some (.cells cs et fz ex sd)) ∧
      Enc Pu (startH l) (.slc (.int k)) xs [v'] ∧ v'.cells.toList = [v'] ∧ VR (startG2 φ m) W v' v ∧ ∀ n ∈ xs, (Lit.int k n).wf = true := by
  obtain ⟨fuel, h⟩ := h
  rcases open_ints ht he hc h with ⟨h1, h2⟩ | ⟨a, len, cap, zs, h1, h2, h3, h4, h5, h6, h7, h8⟩
  · rw [hv] at h1
    cases h1
    refine ⟨[], [], fun _ => (0, 0), 0, fun _ => False, .slice none 0 0, start_rh2 (by decide) (fun x hx => by cases hx) (fun x hx => by cases hx), fun x hx => (by cases hx), fun b hb => hb.elim, ?_, rfl, .snil, fun n hn => by cases hn⟩
    unfold Enc; exact .inl ⟨rfl, rfl⟩
  · rw [hv] at h1
    cases h1
    rw [if_pos rfl] at h5
    have hhas : W.has P .any 0 a e cap := by
      unfold Value.okWide at hval
      simp only [ht] at hval
      unfold Cell.okWide at hval
      simp only [ht] at hval
      unfold Cell.ok at hval
      simp only [ht] at hval
      exact hval.2.2
    obtain ⟨_, hs, row, cells, hsh, _⟩ := hhas
    obtain ⟨φ, et, r1, r2⟩ := list_start (w := W) (a := a) (len := len) (cap := cap) (vals := zs.map (.int k)) (by simpa using h5) h3 (by simp [free1]) hs hsh (fun i v hi => by
      rw [List.getElem?_map] at hi
      obtain ⟨z, hz, rfl⟩ := Option.map_eq_some_iff.1 hi
      have hlt := (List.getElem?_eq_some_iff.1 hz).1
      rw [h7 i hlt, List.getD_eq_getElem?_getD, hz]; rfl)
    have hl : (zs.take len).length = len := by simp; omega
    refine ⟨zs.take len, _, φ, 1, (· = 32), _, r1, fun x hx => ?_, list_pu, list_enc (e := .int k) rfl (by simp; omega) (fun i x hi => ?_), rfl, by rw [hl]; exact r2, fun n hn => h8 n (List.mem_of_mem_take hn)⟩
    · rcases List.mem_singleton.1 hx with rfl
      show 32 < roN; decide
    · have hi' : zs[i]? = some x := by
        rw [List.getElem?_take] at hi
        split at hi
        · exact hi
        · cases hi
      exact ⟨.int k x, by rw [List.getElem?_map, hi']; rfl, by intro Pu I; unfold Enc; rfl⟩
end Go.Gv

namespace Go.Gv
open Go
theorem slice_cells {P : Program} {W : World} {r : Reach} {b : Nat} {t e : TypeId} {v : Value} (ht : P.underlying t = some (.slice e)) (h : Value.okWide P W r b t v) : v.cells.toList = [v] := by
  unfold Value.okWide at h
  simp only [ht] at h
  unfold Cell.okWide at h
  simp only [ht] at h
  unfold Cell.ok at h
  simp only [ht] at h
  cases v <;> first | (cases h; done) | rfl
end Go.Gv
