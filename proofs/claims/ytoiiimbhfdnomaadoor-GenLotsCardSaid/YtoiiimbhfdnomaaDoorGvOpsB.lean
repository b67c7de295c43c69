/- The pure evaluator's operations are the ideal one's (the second part): new variables, numbers, texts. -/
import Derived.Test.YtoiiimbhfdnomaaDoorGvOpsA
import Derived.Test.YtoiiimbhfdnomaaDoorIvFast
namespace Go.Gv
open Go Go.Iv

/-! ### Pure runs -/
theorem runP_bind {α β : Type} (P : Program) (s : Sem α) (k : α → Sem β) {a : α} (h : runP P s = some a) : runP P (s >>= k) = runP P (k a) := by
  induction s with
  | pure b => simp [runP] at h; subst h; rfl
  | program f ih => exact ih P h
  | _ => simp [runP] at h
theorem runP_underlying {P : Program} {t : TypeId} {d : TypeDesc} (h : P.underlying t = some d) : runP P (underlying t) = some d := by
  unfold underlying
  rw [runP_bind (a := P) P program _ rfl]
  simp only [h]; rfl
theorem run_mul (P : Program) (t : TypeId) (k : IntKind) (n m : Int) : runP P (Go.binOp .mul t (.int k n) (.int k m)) = some (.int k (k.wrap (n * m))) := by
  simp [Go.binOp, Op.intArith]; rfl
theorem run_quo (P : Program) (t : TypeId) (k : IntKind) (n m : Int) (h : m ≠ 0) : runP P (Go.binOp .quo t (.int k n) (.int k m)) = some (.int k (k.wrap (n.tdiv m))) := by
  simp [Go.binOp, Op.intDiv, h]; rfl
theorem run_rem (P : Program) (t : TypeId) (k : IntKind) (n m : Int) (h : m ≠ 0) : runP P (Go.binOp .rem t (.int k n) (.int k m)) = some (.int k (n.tmod m)) := by
  simp [Go.binOp, Op.intDiv, h]; rfl
theorem run_shl (P : Program) (t : TypeId) (k k' : IntKind) (n m : Int) (h : 0 ≤ m) : runP P (Go.binOp .shl t (.int k n) (.int k' m)) = some (.int k (k.wrap (n * 2 ^ (min m.toNat k.bits)))) := by
  simp [Go.binOp, Op.shift, if_neg (show ¬ m < 0 by omega)]; rfl
theorem run_shr (P : Program) (t : TypeId) (k k' : IntKind) (n m : Int) (h : 0 ≤ m) : runP P (Go.binOp .shr t (.int k n) (.int k' m)) = some (.int k (n.fdiv (2 ^ (min m.toNat k.bits)))) := by
  simp [Go.binOp, Op.shift, if_neg (show ¬ m < 0 by omega)]; rfl
theorem run_bits (P : Program) (t : TypeId) {op : BinOp} {k : IntKind} {n m q : Int} (h : bitsG op k n m = some q) : runP P (Go.binOp op t (.int k n) (.int k m)) = some (.int k q) := by
  unfold bitsG at h
  cases op <;> first | (cases h; simp [Go.binOp, Op.intBits]; rfl) | cases h
theorem run_eq_bool {P : Program} {t : TypeId} (h : P.underlying t = some TypeDesc.bool) (x y : Operand) (a b : Bool) : runP P (do eqGuard .eql t x y (.bool a) (.bool b); Go.binOp .eql t (.bool a) (.bool b)) = some (.bool (a == b)) := by
  rw [runP_bind (a := ()) P (eqGuard .eql t x y (.bool a) (.bool b)) _ rfl]
  have he : runP P (Op.equal t (.bool a) (.bool b)) = some (a == b) := by
    unfold Op.equal
    show runP P (Op.equalIn (9999 + 1) t (.bool a) (.bool b)) = _
    unfold Op.equalIn
    rw [runP_bind _ _ _ (runP_underlying h)]
    rfl
  unfold Go.binOp
  exact (runP_bind P _ _ he).trans rfl
theorem run_ne_bool {P : Program} {t : TypeId} (h : P.underlying t = some TypeDesc.bool) (x y : Operand) (a b : Bool) : runP P (do eqGuard .neq t x y (.bool a) (.bool b); Go.binOp .neq t (.bool a) (.bool b)) = some (.bool (!(a == b))) := by
  rw [runP_bind (a := ()) P (eqGuard .neq t x y (.bool a) (.bool b)) _ rfl]
  have he : runP P (Op.equal t (.bool a) (.bool b)) = some (a == b) := by
    unfold Op.equal
    show runP P (Op.equalIn (9999 + 1) t (.bool a) (.bool b)) = _
    unfold Op.equalIn
    rw [runP_bind _ _ _ (runP_underlying h)]
    rfl
  unfold Go.binOp
  exact (runP_bind P _ _ he).trans rfl

/-! ### Bytes -/
theorem wrap_u8 (n : Int) : IntKind.u8.wrap n = n % 256 := by
  simp [IntKind.wrap, IntKind.bits, IntKind.signed]
theorem byte_add (a b : UInt8) : IntKind.u8.wrap (a.toNat + b.toNat) = ((a + b).toNat : Int) := by
  rw [wrap_u8, UInt8.toNat_add]; omega
theorem byte_sub (a b : UInt8) : IntKind.u8.wrap (a.toNat - b.toNat) = ((a - b).toNat : Int) := by
  rw [wrap_u8, UInt8.toNat_sub]; have := a.toNat_lt; have := b.toNat_lt; omega
theorem ofInt_u8 (a : UInt8) : BitVec.ofInt 8 (a.toNat : Int) = a.toBitVec := by
  rw [BitVec.ofInt_natCast]; simp
theorem byte_and (a b : UInt8) : bitsG .and .u8 a.toNat b.toNat = some ((a &&& b).toNat : Int) := by
  show some (IntKind.u8.wrap ((BitVec.ofInt 8 (a.toNat : Int) &&& BitVec.ofInt 8 (b.toNat : Int)).toNat : Int)) = _
  rw [ofInt_u8, ofInt_u8, wrap_u8]
  have : (a.toBitVec &&& b.toBitVec).toNat = (a &&& b).toNat := rfl
  rw [this]; have := (a &&& b).toNat_lt; congr 1; omega
theorem byte_or (a b : UInt8) : bitsG .or .u8 a.toNat b.toNat = some ((a ||| b).toNat : Int) := by
  show some (IntKind.u8.wrap ((BitVec.ofInt 8 (a.toNat : Int) ||| BitVec.ofInt 8 (b.toNat : Int)).toNat : Int)) = _
  rw [ofInt_u8, ofInt_u8, wrap_u8]
  have : (a.toBitVec ||| b.toBitVec).toNat = (a ||| b).toNat := rfl
  rw [this]; have := (a ||| b).toNat_lt; congr 1; omega
theorem byte_xor (a b : UInt8) : bitsG .xor .u8 a.toNat b.toNat = some ((a ^^^ b).toNat : Int) := by
  show some (IntKind.u8.wrap ((BitVec.ofInt 8 (a.toNat : Int) ^^^ BitVec.ofInt 8 (b.toNat : Int)).toNat : Int)) = _
  rw [ofInt_u8, ofInt_u8, wrap_u8]
  have : (a.toBitVec ^^^ b.toBitVec).toNat = (a ^^^ b).toNat := rfl
  rw [this]; have := (a ^^^ b).toNat_lt; congr 1; omega
theorem byte_of (n : Int) : ((UInt8.ofNat (IntKind.u8.wrap n).toNat).toNat : Int) = IntKind.u8.wrap n := by
  rw [wrap_u8]; simp; omega
theorem byte_wrap (c : UInt8) : IntKind.u8.wrap (c.toNat : Int) = (c.toNat : Int) := by
  rw [wrap_u8]; have := c.toNat_lt; omega
theorem byte_eq (a b : UInt8) : ((a.toNat : Int) == (b.toNat : Int)) = (a == b) := by
  rw [Bool.eq_iff_iff]; simp
  exact ⟨fun h => UInt8.toNat_inj.1 (by omega), fun h => by rw [h]⟩
theorem byte_lt (a b : Nat) : ilt (a : Int) (b : Int) = Nat.blt a b := by
  rw [ilt_eq, Bool.eq_iff_iff]; simp [Nat.blt_eq]
theorem byte_le (a b : Nat) : ile (a : Int) (b : Int) = Nat.ble a b := rfl

section
variable {β : Type} {P : Program} {hint : Hint} {Γ Γ1 : Gam} {Pu Pu1 : Nat → Prop} {H H1 : GH} {I I1 : IH} {K : TV → GH → Option β} {r : β}

/-! ### Constants -/
theorem conv1_ok {v : Value} (h : byteOK v = true) : GR Γ Pu I (conv1 v) v := by
  cases v with
  | int k n =>
    cases k <;> try exact .int _ _
    cases n with
    | ofNat n =>
      have hn : n ≤ 255 := ble_true h
      have : GR Γ Pu I (.byte (UInt8.ofNat n)) (.int .u8 ((UInt8.ofNat n).toNat : Int)) := .byte _
      have e : ((UInt8.ofNat n).toNat : Int) = Int.ofNat n := by simp; omega
      rw [e] at this
      exact this
    | negSucc n => cases h
  | bool b => exact .bool b
  | string s => exact .str (bl s)
  | _ => exact .raw _

theorem convL_ok : ∀ {l : List Value}, l.all byteOK = true → GRs Γ Pu I (l.map conv1) l := by
  intro l
  induction l with
  | nil => intro _; exact .nil
  | cons v l ih => intro h; simp only [List.all_cons, Bool.and_eq_true] at h; exact .cons (conv1_ok h.1) (ih h.2)

theorem conv_ok (v : Value) : GR Γ Pu I (conv v) (if free v then v else poison) := by
  unfold conv
  cases hf : free v with
  | false => exact .undef _
  | true =>
    simp only [cond_true, if_true]
    split
    · rename_i cs
      cases hb : cs.toList.all byteOK with
      | false => exact .undef _
      | true => exact .agg (convL_ok hb)
    · exact .undef _
    · exact .undef _
    · cases hb : byteOK v with
      | false => exact .undef _
      | true => exact conv1_ok hb

theorem opdG_ok {fi : FI} {E : GE} {E' : En} (hs : Sim P hint Γ Pu H I) (he : ER Γ Pu I E E') (x : Operand) : GR Γ Pu I (opdG fi E x) (opd fi E' x) := by
  cases x with
  | tmp t =>
    show GR Γ Pu I (lkGE fi E t) (lkE fi E' t)
    unfold lkGE lkE
    cases cls fi t with
    | out => exact .undef _
    | loc => exact (he t).1
    | tmp => exact (he t).2
  | const v => exact conv_ok v
  | global g =>
    show GR Γ Pu I (bif Nat.ble (Nat.succ g) glN then .ptr g 0 else .undef) (if g < glN then _ else _)
    by_cases h : g < glN
    · rw [if_pos h, Nat.ble_eq_true_of_le (show Nat.succ g ≤ glN from h)]
      obtain ⟨l, h1, h2⟩ := hs.glob g h
      exact .ptr h1 h2
    · rw [if_neg h]
      cases hb : Nat.ble (Nat.succ g) glN with
      | false => exact .undef _
      | true => exact absurd (ble_true hb) h
  | func f => exact .fn .nil .nil

/-! ### New variables -/
theorem Good.cells (hs : Sim P hint Γ Pu H I) {et : TypeId} {cs : List TV} {vs : List Value} (hr : GRs Γ Pu I cs vs) (h : K (.ptr H.n 0) (H.new (.cells et cs true)) = some r) :
    Good P hint K r Γ Pu H I (some (ptrTo I.n, newCells I et vs)) := by
  obtain ⟨s1, e1⟩ := hs.new (.cells et cs true) (.cells vs et 0 true false) ⟨some (I.n, 0), 0, 0, 0⟩ 0 rfl
    ⟨I.n, vs, 0, true, false, rfl, by rw [IH.get_new, if_pos rfl], hr.mono (keep_new hs _ _), fun _ => ⟨hs.ro, rfl, rfl, rfl⟩, fun h => by cases h⟩
  exact ⟨_, _, _, _, _, _, h, rfl, .ptr (l := ⟨some (I.n, 0), 0, 0, 0⟩) (by simp [Gam.up]) rfl, s1, e1⟩

theorem gAlloc_ok (hs : Sim P hint Γ Pu H I) {e : TypeId} (h : gAlloc P H e K = some r) : Good P hint K r Γ Pu H I (resV (evAlloc P I e)) := by
  unfold gAlloc at h
  split at h
  · rename_i z hz
    replace h := bif_some h; obtain ⟨hb, h⟩ := h
    simp only [evAlloc, hz, resV]
    exact Good.cells hs (convL_ok hb) h
  · cases h

theorem GR.okCells {t : TV} {v : Value} (h : GR Γ Pu I t v) (ho : t.ok = true) : okv v = true ∧ GRs Γ Pu I t.cells v.cells.toList := by
  cases h with
  | agg h => exact ⟨rfl, h⟩
  | tup _ => cases ho
  | undef _ => cases ho
  | raw v =>
    simp only [TV.ok, Bool.and_eq_true] at ho
    refine ⟨ho.1, ?_⟩
    have : v.cells.toList = [v] := by
      cases v <;> first | rfl | (exact absurd ho.2 (by simp))
    rw [this]; exact .cons (.raw v) .nil
  | lst he a b =>
    have he0 := he
    unfold Enc at he
    rcases he with ⟨_, h⟩ | ⟨b, off, cap, cs, et, fz, ex, sd, h, _⟩ <;> cases h <;> exact ⟨rfl, .cons (.lst he0 a b) .nil⟩
  | all hl hv =>
    have hv0 := hv
    unfold SlV at hv
    split at hv
    · obtain ⟨rfl, _⟩ := hv; exact ⟨rfl, .cons (.all hl hv0) .nil⟩
    · obtain ⟨cap, rfl, _⟩ := hv; exact ⟨rfl, .cons (.all hl hv0) .nil⟩
  | own hl hle hv =>
    have hv0 := hv
    unfold SlV at hv
    split at hv
    · obtain ⟨rfl, _⟩ := hv; exact ⟨rfl, .cons (.own hl hle hv0) .nil⟩
    · obtain ⟨cap, rfl, _⟩ := hv; exact ⟨rfl, .cons (.own hl hle hv0) .nil⟩
  | int k n => exact ⟨rfl, .cons (.int k n) .nil⟩
  | byte c => exact ⟨rfl, .cons (.byte c) .nil⟩
  | bool c => exact ⟨rfl, .cons (.bool c) .nil⟩
  | str c => exact ⟨rfl, .cons (.str c) .nil⟩
  | ptr a b => exact ⟨rfl, .cons (.ptr a b) .nil⟩
  | pel a b c d => exact ⟨rfl, .cons (.pel a b c d) .nil⟩
  | elm a b => exact ⟨rfl, .cons (.elm a b) .nil⟩
  | fn a b => exact ⟨rfl, .cons (.fn a b) .nil⟩
  | yld a b => exact ⟨rfl, .cons (.yld a b) .nil⟩

theorem gBox_ok (hs : Sim P hint Γ Pu H I) {e : TypeId} {v : TV} {v' : Value} (h : gBox H e v K = some r) (hv : GR Γ Pu I v v') : Good P hint K r Γ Pu H I (resV (evBox I e v')) := by
  unfold gBox at h
  replace h := bif_some h; obtain ⟨hb, h⟩ := h
  obtain ⟨h1, h2⟩ := hv.okCells hb
  simp only [evBox, h1, if_true, resV]
  exact Good.cells hs h2 h

/-! ### Aggregates -/
def PsG (Γ : Gam) (Pu : Nat → Prop) (I : IH) : List (Nat × TV) → List (Nat × Value) → Prop
  | [], [] => True
  | (i, t) :: l, (j, v) :: l' => i = j ∧ GR Γ Pu I t v ∧ PsG Γ Pu I l l'
  | _, _ => False

theorem PsG.map {ρ : Operand → TV} {ρ' : Operand → Value} (h : ∀ x, GR Γ Pu I (ρ x) (ρ' x)) : ∀ l : List (Nat × Operand), PsG Γ Pu I (l.map fun p => (p.1, ρ p.2)) (l.map fun p => (p.1, ρ' p.2)) := by
  intro l
  induction l with
  | nil => trivial
  | cons p l ih => exact ⟨rfl, h p.2, ih⟩

theorem PsG.ok : ∀ {l : List (Nat × TV)} {l' : List (Nat × Value)}, PsG Γ Pu I l l' → l.all (fun p => p.2.ok) = true → l'.all (fun p => okv p.2) = true := by
  intro l
  induction l with
  | nil => intro l' h _; cases l' with
    | nil => rfl
    | cons => exact h.elim
  | cons p l ih =>
    intro l' h ho
    cases l' with
    | nil => exact h.elim
    | cons p' l' =>
      obtain ⟨i, t⟩ := p; obtain ⟨j, v⟩ := p'
      obtain ⟨_, h2, h3⟩ := h
      simp only [List.all_cons, Bool.and_eq_true] at ho ⊢
      exact ⟨(h2.okCells ho.1).1, ih h3 ho.2⟩

theorem fillG_ok {place : Nat → Option (Nat × Nat)} : ∀ {ps : List (Nat × TV)} {ps' : List (Nat × Value)} {cs cs' : List TV} {vs : Array Value}, fillG place cs ps = some cs' → ps.all (fun p => p.2.ok) = true → PsG Γ Pu I ps ps' → GRs Γ Pu I cs vs.toList →
    ∃ vs', Instr.fill place vs ps' = some vs' ∧ GRs Γ Pu I cs' vs'.toList := by
  intro ps
  induction ps with
  | nil =>
    intro ps' cs cs' vs h _ hp hr
    cases ps' with
    | nil => unfold fillG at h; cases h; exact ⟨vs, rfl, hr⟩
    | cons => exact hp.elim
  | cons p ps ih =>
    intro ps' cs cs' vs h ho hp hr
    cases ps' with
    | nil => exact hp.elim
    | cons p' ps' =>
      obtain ⟨i, t⟩ := p; obtain ⟨j, v⟩ := p'
      obtain ⟨rfl, h2, h3⟩ := hp
      simp only [List.all_cons, Bool.and_eq_true] at ho
      unfold fillG at h
      split at h
      · cases h
      · rename_i off size hpl
        replace h := bif_some h; obtain ⟨hb, h⟩ := h
        replace hb := Go.Gv.and_true hb; obtain ⟨hb1, hb2⟩ := hb
        have hc := (h2.okCells ho.1).2
        have hl := hc.length
        have hl2 := hr.length
        have e1 := beq_true hb1
        have e2 := ble_true hb2
        have hfold : (v.cells.zipIdx.foldl (fun cs (x : Value × Nat) => cs.setIfInBounds (off + x.2) x.1) vs).toList = setRun vs.toList off v.cells.toList := by
          have := fold_setRun off v.cells.toList 0 vs
          rw [Nat.add_zero] at this
          rw [← this]
          congr 1
          rw [← Array.foldl_toList, Array.toList_zipIdx]
        obtain ⟨vs', hf, hr'⟩ := ih (vs := v.cells.zipIdx.foldl (fun cs (x : Value × Nat) => cs.setIfInBounds (off + x.2) x.1) vs) h ho.2 h3 (by rw [hfold]; exact hc.setRun hr off)
        refine ⟨vs', ?_, hr'⟩
        unfold Instr.fill
        rw [hpl]
        simp only
        have hn : (v.cells.size ≠ size || off + v.cells.size > vs.size) = false := by
          rw [← Array.length_toList, ← Array.length_toList, hl, hl2]
          simp; omega
        rw [hn]
        exact hf

theorem gBuild_ok (hs : Sim P hint Γ Pu H I) {t : TypeId} {ps : List (Nat × TV)} {ps' : List (Nat × Value)} (h : gBuild P H t ps K = some r) (hp : PsG Γ Pu I ps ps') : Good P hint K r Γ Pu H I (resV (evBuild P I t ps')) := by
  unfold gBuild at h
  replace h := bif_some h; obtain ⟨hb, h⟩ := h
  simp only [evBuild, hp.ok hb, if_true]
  split at h
  · rename_i z hz
    replace h := bif_some h; obtain ⟨hb2, h⟩ := h
    have hzr := convL_ok (Γ := Γ) (Pu := Pu) (I := I) hb2
    split at h
    · rename_i fs hu
      split at h
      · rename_i places hpl
        split at h
        · rename_i cells hf
          obtain ⟨vs', hf', hr'⟩ := fillG_ok hf hb hp hzr
          simp only [hz, hu, hpl, hf', resV]
          exact Good.same hs h (.agg hr')
        · cases h
      · cases h
    · rename_i n e hu
      split at h
      · rename_i i hi
        split at h
        · rename_i cells hf
          obtain ⟨vs', hf', hr'⟩ := fillG_ok hf hb hp hzr
          simp only [hz, hu, hi, hf', resV]
          exact Good.same hs h (.agg hr')
        · cases h
      · cases h
    · cases h
  · cases h

theorem gNil_ok (hs : Sim P hint Γ Pu H I) {x : TV} {x' : Value} (h : gNil H x K = some r) (hx : GR Γ Pu I x x') : Good P hint K r Γ Pu H I (resV (evNilCheck I x')) := by
  unfold gNil at h
  split at h
  all_goals first
    | (cases hx; simp only [evNilCheck, resV]; exact Good.same hs h (by constructor <;> assumption))
    | cases h

theorem atAgg_ok {cs : List TV} {vs : List Value} {t : TypeId} {x : TV} {off : Nat} (hr : GRs Γ Pu I cs vs) (h : atCells P t (cs.drop off) = some x) : ∃ v, partOf P t vs off = some v ∧ GR Γ Pu I x v := by
  unfold atCells at h
  unfold partOf
  cases ha : isAggB P t with
  | none => rw [ha] at h; cases h
  | some g =>
    rw [ha] at h
    cases g with
    | true =>
      simp only at h ⊢
      cases hi : P.info? t with
      | none => rw [hi] at h; cases h
      | some i =>
        rw [hi] at h
        simp only at h ⊢
        obtain ⟨h1, h2⟩ := bif_some h
        cases h2
        exact ⟨_, rfl, .agg ((hr.drop off).take i.size)⟩
    | false =>
      simp only at h ⊢
      cases hd : cs.drop off with
      | nil => rw [hd] at h; cases h
      | cons c cs' =>
        rw [hd] at h; cases h
        have := hr.drop off
        rw [hd] at this
        obtain ⟨v, hv, hr'⟩ := this.get (i := 0) rfl
        rw [List.getElem?_drop] at hv
        exact ⟨v, by simpa using hv, hr'⟩

theorem gField_ok (hs : Sim P hint Γ Pu H I) {t : TypeId} {x : TV} {x' : Value} {f : Nat} (h : gField P H t x f K = some r) (hx : GR Γ Pu I x x') : Good P hint K r Γ Pu H I (resV (evField P I t x' f)) := by
  unfold gField at h
  split at h
  · rename_i fs cs hu
    cases hx with | agg hr =>
    split at h
    · rename_i fd hfd
      split at h
      · rename_i v hv
        obtain ⟨v', hp, hr'⟩ := atAgg_ok (P := P) hr hv
        simp only [evField, hu, hfd, hp, resV]
        exact Good.same hs h hr'
      · cases h
    · cases h
  · cases h

theorem gFieldAddr_ok (hs : Sim P hint Γ Pu H I) {s : TypeId} {x : TV} {x' : Value} {f : Nat} (h : gFieldAddr P H s x f K = some r) (hx : GR Γ Pu I x x') : Good P hint K r Γ Pu H I (resV (evFieldAddr P I s x' f)) := by
  unfold gFieldAddr at h
  split at h
  · rename_i fs hu
    split at h
    · rename_i fd hfd
      split at h
      · rename_i i hi
        cases hz : Nat.beq i.size 0 with
        | true => rw [hz] at h; cases h
        | false =>
          rw [hz] at h
          simp only [cond_false] at h
          have hne : i.size ≠ 0 := fun e => by rw [e] at hz; cases hz
          split at h
          · cases hx with | ptr a b =>
            simp only [evFieldAddr, hu, hfd, hi, if_neg hne, resV]
            exact Good.same hs h (.ptr a b)
          · rename_i cs
            cases hx with | pel a b c d =>
            simp only [evFieldAddr, hu, hfd, hi, if_neg hne, resV]
            replace h := bif_some h; obtain ⟨hb, h⟩ := h
            have hl := ble_true hb
            refine Good.same hs h ?_
            refine .pel a b (by simp; omega) ?_
            have := d.drop fd.offset
            rw [List.drop_take, List.drop_drop] at this
            simpa using this
          · rename_i id j off
            cases hx with | elm a b =>
            simp only [evFieldAddr, hu, hfd, hi, if_neg hne, resV]
            have := GR.elm (Γ := Γ) (Pu := Pu) (I := I) (i := j) (off := off + fd.offset) a b
            rw [← Nat.add_assoc] at this
            exact Good.same hs h this
          · cases h
      · cases h
    · cases h
  · cases h
end
end Go.Gv
