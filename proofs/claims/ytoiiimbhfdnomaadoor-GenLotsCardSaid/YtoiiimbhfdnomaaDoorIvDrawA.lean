/- Regions that draw their order, the first part: what an operation looks at; what goes ahead of what; the evaluator's own walk taken to pieces. -/
import Derived.Test.YtoiiimbhfdnomaaDoorIvEval
import Derived.Orders
namespace Go.Iv
open Go

variable {P : Program} {sf : Self} {ops : Array Oper}

/-! ### What an operation looks at -/
theorem evOp_congr {ρ ρ' : Operand → Value} {H : IH} (o : Oper) (h : ∀ x ∈ o.op.operands, ρ x = ρ' x) : evOp P sf ρ H o = evOp P sf ρ' H o := by
  obtain ⟨dst, op, type, pos, after, guard⟩ := o
  have pairs : ∀ ps : Array (Nat × Operand), (∀ x ∈ ps.map (·.2), ρ x = ρ' x) →
      (ps.toList.map fun p => (p.1, ρ p.2)) = (ps.toList.map fun p => (p.1, ρ' p.2)) := fun ps hp =>
    List.map_congr_left fun p hm => by
      obtain ⟨i, x⟩ := p
      simp only [hp x (Array.mem_map.2 ⟨(i, x), by simpa using hm, rfl⟩)]
  have arr : ∀ l : Array Operand, (∀ x ∈ l, ρ x = ρ' x) → l.toList.map ρ = l.toList.map ρ' := fun l hl =>
    List.map_congr_left fun x hx => hl x (by simpa using hx)
  have opt : ∀ l : Option Operand, (∀ x ∈ l.toArray, ρ x = ρ' x) → l.map ρ = l.map ρ' := fun l hl => by
    cases l with
    | none => rfl
    | some x => simp only [Option.map_some, hl x (by simp)]
  cases op <;> simp only [Op.operands] at h <;> simp only [evOp]
  case build t ps => rw [pairs ps fun x hx => h x (by simpa using hx)]
  case buildSlice t n ps => rw [pairs ps fun x hx => h x (by simpa using hx)]
  case makeFunc fn first captured => rw [arr first fun x hx => h x (by simp [hx]), arr captured fun x hx => h x (by simp [hx])]
  case makeMap t r => rw [opt r h]
  case slice t x lo hi mx =>
    rw [h x (by simp), opt lo fun y hy => h y (by simp at hy ⊢; simp [hy]), opt hi fun y hy => h y (by simp at hy ⊢; simp [hy]), opt mx fun y hy => h y (by simp at hy ⊢; simp [hy])]
  case call c =>
    obtain ⟨callee, args, ats⟩ := c
    have ha := arr args fun x hx => h x (by simp [Call.operands, hx])
    unfold evCallOp
    cases callee with
    | builtin b => simp only [ha]
    | value f => have hf := h f (by simp [Call.operands]); simp only [ha, hf]
    | invoke r m => rfl
  case defer c =>
    obtain ⟨callee, args, ats⟩ := c
    have ha := arr args fun x hx => h x (by simp [Call.operands, hx])
    cases callee with
    | builtin b => rfl
    | value f => have hf := h f (by simp [Call.operands]); simp only [ha, hf]
    | invoke r m => rfl
  case next it b => cases b with
    | false => rfl
    | true => exact congrArg (evNext H) (h it (by simp))
  all_goals (first | rfl | (simp at h; simp only [h]; done))

variable {fi : FI}

theorem opd_looks {T T' : En} {o : Oper} (h : ∀ t ∈ o.looksAt ops, lkE fi T t = lkE fi T' t) : ∀ x ∈ o.op.operands, opd fi T x = opd fi T' x := by
  intro x hx
  cases x with
  | tmp t => exact h t (List.mem_append_left _ (List.mem_filterMap.2 ⟨.tmp t, by simpa using hx, rfl⟩))
  | const v => rfl
  | global g => rfl
  | func f => rfl

/-- All that it does not look at is hidden. -/
def hide (fi : FI) (l : List Tmp) (T : En) : Operand → Value
  | .tmp t => if l.contains t then lkE fi T t else poison
  | x => opd fi T x

theorem evOp_hide {T : En} {H : IH} {o : Oper} : evOp P sf (hide fi (o.looksAt ops) T) H o = evOp P sf (opd fi T) H o := by
  refine evOp_congr o fun x hx => ?_
  cases x with
  | tmp t =>
    have : t ∈ o.looksAt ops := List.mem_append_left _ (List.mem_filterMap.2 ⟨.tmp t, by simpa using hx, rfl⟩)
    simp [hide, this, opd]
  | const v => rfl
  | global g => rfl
  | func f => rfl

/-! ### What goes ahead -/
def foldP (A : List Nat) (o : Oper) : Nat := o.after.toList.foldl (fun s e => if Region.binds .any e then s ||| 2 ^ e.on ||| A.getD e.on 0 else s) 0

theorem predsOf_spec : ∀ (l : List Oper) (acc : List Nat), ∃ r, predsOf l acc = acc ++ r ∧ r.length = l.length ∧ ∀ k o, l[k]? = some o → r[k]? = some (foldP (acc ++ r.take k) o) := by
  intro l
  induction l with
  | nil => intro acc; exact ⟨[], by simp [predsOf], rfl, fun k o h => by simp at h⟩
  | cons o l ih =>
    intro acc
    obtain ⟨r, h1, h2, h3⟩ := ih (acc ++ [foldP acc o])
    refine ⟨foldP acc o :: r, ?_, by simp [h2], ?_⟩
    · simp only [predsOf]
      have : predsOf l (acc ++ [foldP acc o]) = acc ++ foldP acc o :: r := by rw [h1]; simp
      exact this
    · intro k x hk
      cases k with
      | zero => simp at hk; subst hk; simp
      | succ k =>
        simp at hk
        have := h3 k x hk
        simp only [List.getElem?_cons_succ, List.take_succ_cons]
        rw [this]; simp

theorem foldP_bit (A : List Nat) (j : Nat) : ∀ (l : List Edge) (s : Nat),
    (l.foldl (fun s e => if Region.binds .any e then s ||| 2 ^ e.on ||| A.getD e.on 0 else s) s).testBit j = true ↔
      (s.testBit j = true ∨ ∃ e ∈ l, Region.binds .any e = true ∧ (j = e.on ∨ (A.getD e.on 0).testBit j = true)) := by
  intro l
  induction l with
  | nil => intro s; simp
  | cons e l ih =>
    intro s
    simp only [List.foldl_cons]
    rw [ih]
    cases hb : Region.binds .any e with
    | false => simp [hb]
    | true =>
      simp only [if_true, Nat.testBit_or, Bool.or_eq_true, Nat.testBit_two_pow, decide_eq_true_eq, List.mem_cons]
      constructor
      · rintro (((h | h) | h) | h)
        · exact .inl h
        · exact .inr ⟨e, .inl rfl, hb, .inl h.symm⟩
        · exact .inr ⟨e, .inl rfl, hb, .inr h⟩
        · obtain ⟨e', h1, h2⟩ := h; exact .inr ⟨e', .inr h1, h2⟩
      · rintro (h | ⟨e', rfl | h1, h2, h3⟩)
        · exact .inl (.inl (.inl h))
        · rcases h3 with h3 | h3
          · exact .inl (.inl (.inr h3.symm))
          · exact .inl (.inr h3)
        · exact .inr ⟨e', h1, h2, h3⟩

/-- The i-th mask. -/
def pm (ops : Array Oper) (i : Nat) : Nat := (predsOf ops.toList []).getD i 0

theorem ms_len : (predsOf ops.toList []).length = ops.size := by
  obtain ⟨r, h1, h2, -⟩ := predsOf_spec ops.toList []
  rw [h1]; simp [h2]

theorem ms_get {i : Nat} (hi : i < ops.size) : (predsOf ops.toList [])[i]? = some (pm ops i) := by
  have : i < (predsOf ops.toList []).length := by rw [ms_len]; exact hi
  simp [pm, List.getD_eq_getElem?_getD, this]

/-- The edges go back. -/
def Back (ops : Array Oper) : Prop := ∀ i o, ops[i]? = some o → ∀ e ∈ o.after, Region.binds .any e = true → e.on < i

theorem pm_bit (hb : Back ops) {i j : Nat} {o : Oper} (ho : ops[i]? = some o) :
    (pm ops i).testBit j = true ↔ ∃ e ∈ o.after, Region.binds .any e = true ∧ (j = e.on ∨ (pm ops e.on).testBit j = true) := by
  obtain ⟨r, h1, h2, h3⟩ := predsOf_spec ops.toList []
  have hk := h3 i o (by simpa using ho)
  have e1 : pm ops i = foldP (r.take i) o := by
    simp only [pm, h1, List.nil_append, List.getD_eq_getElem?_getD, hk, Option.getD_some]
  rw [e1]
  unfold foldP
  rw [foldP_bit]
  simp only [Nat.zero_testBit, Bool.false_eq_true, false_or, Array.mem_toList_iff]
  have e2 : ∀ e ∈ o.after, Region.binds .any e = true → (r.take i).getD e.on 0 = pm ops e.on := by
    intro e he hbe
    have hlt := hb i o ho e he hbe
    simp only [pm, h1, List.nil_append, List.getD_eq_getElem?_getD]
    rw [List.getElem?_take_of_lt hlt]
  constructor
  · rintro ⟨e, h1, h2, h3⟩; exact ⟨e, h1, h2, h3.imp id fun x => by rw [← e2 e h1 h2]; exact x⟩
  · rintro ⟨e, h1, h2, h3⟩; exact ⟨e, h1, h2, h3.imp id fun x => by rw [e2 e h1 h2]; exact x⟩

theorem pm_lt (hb : Back ops) : ∀ (i : Nat) {j : Nat}, i < ops.size → (pm ops i).testBit j = true → j < i := by
  intro i
  induction i using Nat.strongRecOn with
  | _ i ih =>
    intro j hi h
    obtain ⟨e, h1, h2, h3⟩ := (pm_bit hb (Array.getElem?_eq_getElem hi)).1 h
    have hlt := hb i _ (Array.getElem?_eq_getElem hi) e h1 h2
    rcases h3 with rfl | h3
    · exact hlt
    · have := ih e.on hlt (by omega) h3; omega

theorem pm_trans (hb : Back ops) : ∀ (i : Nat) {j k : Nat}, i < ops.size → (pm ops i).testBit j = true → (pm ops j).testBit k = true → (pm ops i).testBit k = true := by
  intro i
  induction i using Nat.strongRecOn with
  | _ i ih =>
    intro j k hi h h'
    obtain ⟨e, h1, h2, h3⟩ := (pm_bit hb (Array.getElem?_eq_getElem hi)).1 h
    have hlt := hb i _ (Array.getElem?_eq_getElem hi) e h1 h2
    refine (pm_bit hb (Array.getElem?_eq_getElem hi)).2 ⟨e, h1, h2, ?_⟩
    rcases h3 with rfl | h3
    · exact .inr h'
    · exact .inr (ih e.on hlt (by omega) h3 h')

theorem okStatic_spec (h : okStatic ops (predsOf ops.toList []) = true) :
    Back ops ∧ (∀ (i j : Nat) (oi oj : Oper) (t : Tmp), ops[i]? = some oi → ops[j]? = some oj → oi.dst = some t → oj.dst = some t → i = j) ∧
    (∀ (i j : Nat) (oi oj : Oper) (t : Tmp), ops[i]? = some oi → ops[j]? = some oj → oj.dst = some t → t ∈ oi.looksAt ops → (pm ops i).testBit j = true ∨ (pm ops j).testBit i = true) := by
  unfold okStatic at h
  rw [List.all_eq_true] at h
  have key : ∀ (i : Nat) (oi : Oper), ops[i]? = some oi → (oi.after.toList.all (fun e => !Region.binds .any e || decide (e.on < i)) = true) ∧
      ∀ j oj t, ops[j]? = some oj → oj.dst = some t → (i = j ∨ oi.dst ≠ some t) ∧ ((pm ops i).testBit j = true ∨ (pm ops j).testBit i = true ∨ t ∉ oi.looksAt ops) := by
    intro i oi hi
    have hlt : i < ops.size := (Array.getElem?_eq_some_iff.1 hi).1
    have h1 := h i (List.mem_range.2 hlt)
    rw [hi, ms_get hlt] at h1
    simp only [Bool.and_eq_true] at h1
    refine ⟨h1.1, fun j oj t hj hd => ?_⟩
    have hjlt : j < ops.size := (Array.getElem?_eq_some_iff.1 hj).1
    have h2 := (List.all_eq_true.1 h1.2) j (List.mem_range.2 hjlt)
    rw [hj] at h2
    simp only [hd, Bool.and_eq_true, Bool.or_eq_true, beq_iff_eq, bne_iff_ne, Bool.not_eq_true'] at h2
    obtain ⟨h3, h4⟩ := h2
    refine ⟨h3.imp Eq.symm id, ?_⟩
    rcases h4 with (h4 | h4) | h4
    · exact .inl h4
    · exact .inr (.inl h4)
    · exact .inr (.inr (by simpa using h4))
  refine ⟨?_, ?_, ?_⟩
  · intro i o hi e he hb
    have := (List.all_eq_true.1 (key i o hi).1) e (by simpa using he)
    simpa [hb] using this
  · intro i j oi oj t hi hj hdi hdj
    exact ((key i oi hi).2 j oj t hj hdj).1.resolve_right (fun x => x hdi)
  · intro i j oi oj t hi hj hdj ht
    rcases ((key i oi hi).2 j oj t hj hdj).2 with x | x | x
    · exact .inl x
    · exact .inr x
    · exact absurd ht x

/-! ### The evaluator's walk -/
inductive StepK (P : Program) (sf : Self) (fi : FI) (ops : Array Oper) (n0 i : Nat) (o : Oper) (m : Nat) (s s' : DS) : Prop
  | off (h : wantedI fi ops s.T o = some false) (e : s' = { s with T := putT fi s.T o.dst undef })
  | pure (h : wantedI fi ops s.T o = some true) (k : kindOf P o = .pure) (v : Value) (H1 : IH) (he : evOp P sf (opd fi s.T) s.H o = some (.val v H1)) (e : s' = { s with T := putT fi s.T o.dst v })
  | read (h : wantedI fi ops s.T o = some true) (k : kindOf P o = .read) (v : Value) (H1 : IH) (he : evOp P sf (opd fi s.T) s.H o = some (.val v H1)) (hs : okSnaps P sf fi s.T o v m s.snaps = true)
      (e : s' = { s with T := putT fi s.T o.dst v, reads := ⟨i, o, s.T, v⟩ :: s.reads })
  | fresh (h : wantedI fi ops s.T o = some true) (k : kindOf P o = .fresh) (v : Value) (H1 : IH) (ob : IObj) (he : evOp P sf (opd fi s.T) { s.H with n := n0 + i } o = some (.val v H1)) (hb : H1.get (n0 + i) = some ob)
      (e : s' = { s with T := putT fi s.T o.dst v, pend := (i, ob) :: s.pend })
  | chain (h : wantedI fi ops s.T o = some true) (k : kindOf P o = .chain) (v : Value) (H1 : IH) (res : OpRes) (hc : chained m s.snaps = true) (hres : res = .val v H1 ∨ (res = .skip H1 ∧ v = undef))
      (he : evOp P sf (opd fi s.T) (overlay n0 (s.pend.filter fun x => m.testBit x.1) s.H) o = some res) (hr : okReads P sf fi H1 m s.reads = true)
      (e : s' = ⟨putT fi s.T o.dst v, H1, s.pend.filter fun x => !m.testBit x.1, (i, s.H) :: s.snaps, s.reads⟩)

theorem drawStep_done {n0 i m : Nat} {o : Oper} {s s' : DS} (h : drawStep P sf fi ops n0 i o m s = .done s') : StepK P sf fi ops n0 i o m s s' := by
  unfold drawStep at h
  split at h
  · rename_i hw
    split at h
    · rename_i hk
      split at h
      · rename_i v H1 he; cases h; exact .pure hw hk v H1 he rfl
      · cases h
    · rename_i hk
      split at h
      · rename_i v H1 he
        split at h
        · rename_i hs; cases h; exact .read hw hk v H1 he hs rfl
        · cases h
      · cases h
    · rename_i hk
      split at h
      · rename_i v H1 he
        split at h
        · rename_i ob hb; cases h; exact .fresh hw hk v H1 ob he hb rfl
        · cases h
      · cases h
    · rename_i hk
      split at h
      · rename_i hc
        split at h
        · rename_i v H1 he
          split at h
          · rename_i hr; cases h; exact .chain hw hk v H1 _ hc (.inl rfl) he hr rfl
          · cases h
        · rename_i H1 he
          split at h
          · rename_i hr; cases h; exact .chain hw hk undef H1 _ hc (.inr ⟨rfl, rfl⟩) he hr rfl
          · cases h
        · cases h
        · cases h
      · cases h
  · rename_i hw; cases h; exact .off hw rfl
  · cases h

structure PanK (P : Program) (sf : Self) (fi : FI) (ops : Array Oper) (n0 : Nat) (o : Oper) (m : Nat) (s : DS) (v : Value) (H1 : IH) : Prop where
  wanted : wantedI fi ops s.T o = some true
  kind : kindOf P o = .chain
  chained : chained m s.snaps = true
  ev : evOp P sf (opd fi s.T) (overlay n0 (s.pend.filter fun x => m.testBit x.1) s.H) o = some (.panic v H1)

theorem drawStep_panic {n0 i m : Nat} {o : Oper} {s : DS} {v : Value} {H1 : IH} (h : drawStep P sf fi ops n0 i o m s = .panic v H1) : PanK P sf fi ops n0 o m s v H1 := by
  unfold drawStep at h
  split at h
  · rename_i hw
    split at h
    · split at h
      · cases h
      · cases h
    · split at h
      · split at h
        · cases h
        · cases h
      · cases h
    · split at h
      · split at h
        · cases h
        · cases h
      · cases h
    · rename_i hk
      split at h
      · rename_i hc
        split at h
        · split at h
          · cases h
          · cases h
        · split at h
          · cases h
          · cases h
        · rename_i he; cases h; exact ⟨hw, hk, hc, he⟩
        · cases h
      · cases h
  · cases h
  · cases h

theorem trace_behind {n0 c : Nat} {v : Value} {Hp : IH} : ∀ (l : List Oper) (i : Nat) (ms : List Nat) (s : DS) (R : DR), evDrawOps P sf fi ops n0 l i ms s (some (c, v, Hp)) = R → R ≠ .fail →
    ∃ S : Nat → DS, S i = s ∧ R = .panic v Hp ∧ ∀ j o m, l[j]? = some o → ms[j]? = some m →
      (m.testBit c = true → S (i + j + 1) = S (i + j)) ∧ (m.testBit c = false → StepK P sf fi ops n0 (i + j) o m (S (i + j)) (S (i + j + 1))) := by
  intro l
  induction l with
  | nil => intro i ms s R h hn; unfold evDrawOps at h; exact ⟨fun _ => s, rfl, h.symm, fun j o m hj => by simp at hj⟩
  | cons o l ih =>
    intro i ms s R h hn
    cases ms with
    | nil => unfold evDrawOps at h; exact absurd h.symm hn
    | cons m ms =>
      unfold evDrawOps at h
      have build : ∀ (s1 : DS), evDrawOps P sf fi ops n0 l (i + 1) ms s1 (some (c, v, Hp)) = R →
          ((m.testBit c = true → s1 = s) ∧ (m.testBit c = false → StepK P sf fi ops n0 i o m s s1)) →
          ∃ S : Nat → DS, S i = s ∧ R = .panic v Hp ∧ ∀ j o' m', (o :: l)[j]? = some o' → (m :: ms)[j]? = some m' →
            (m'.testBit c = true → S (i + j + 1) = S (i + j)) ∧ (m'.testBit c = false → StepK P sf fi ops n0 (i + j) o' m' (S (i + j)) (S (i + j + 1))) := by
        intro s1 h1 hst
        obtain ⟨S, hS, hR, hstep⟩ := ih (i + 1) ms s1 R h1 hn
        refine ⟨fun k => if k = i then s else S k, by simp, hR, ?_⟩
        intro j o' m' ho hm
        cases j with
        | zero =>
          simp at ho hm; subst ho; subst hm
          simpa [hS] using hst
        | succ j =>
          simp at ho hm
          have := hstep j o' m' ho hm
          have e1 : i + 1 + j = i + (j + 1) := by omega
          rw [e1] at this
          simp only [if_neg (show ¬ (i + (j + 1) + 1 = i) by omega), if_neg (show ¬ (i + (j + 1) = i) by omega)]
          exact this
      split at h
      · rename_i hb; exact build s h ⟨fun _ => rfl, fun x => by rw [hb] at x; cases x⟩
      · rename_i hb
        split at h
        · rename_i s1 hd; exact build s1 h ⟨fun x => absurd x hb, fun _ => drawStep_done hd⟩
        · exact absurd h.symm hn

/-- The whole walk: without a panic 'C' is the number of the operations. -/
structure Trace (P : Program) (sf : Self) (fi : FI) (ops : Array Oper) (n0 : Nat) (S : Nat → DS) (C : Nat) (R : DR) : Prop where
  cle : C ≤ ops.size
  step : ∀ i o, ops[i]? = some o → (i < C ∨ (C < i ∧ (pm ops i).testBit C = false)) → StepK P sf fi ops n0 i o (pm ops i) (S i) (S (i + 1))
  skip : ∀ i o, ops[i]? = some o → C < i → (pm ops i).testBit C = true → S (i + 1) = S i
  pan : ∀ o, ops[C]? = some o → ∃ v Hp, R = .panic v Hp ∧ PanK P sf fi ops n0 o (pm ops C) (S C) v Hp ∧ S (C + 1) = { S C with snaps := (C, (S C).H) :: (S C).snaps }
  fin : C = ops.size → R = .done (S ops.size)

theorem trace_ahead {n0 : Nat} : ∀ (l : List Oper) (i : Nat) (ms : List Nat) (s : DS) (R : DR), evDrawOps P sf fi ops n0 l i ms s none = R → R ≠ .fail →
    ∃ (S : Nat → DS) (C : Nat), S i = s ∧ i ≤ C ∧ C ≤ i + l.length ∧ (C = i + l.length → R = .done (S (i + l.length))) ∧
      ∀ j o m, l[j]? = some o → ms[j]? = some m →
      (i + j < C → StepK P sf fi ops n0 (i + j) o m (S (i + j)) (S (i + j + 1))) ∧
      (i + j = C → ∃ v Hp, R = .panic v Hp ∧ PanK P sf fi ops n0 o m (S (i + j)) v Hp ∧ S (i + j + 1) = { S (i + j) with snaps := (i + j, (S (i + j)).H) :: (S (i + j)).snaps }) ∧
      (C < i + j → (m.testBit C = true → S (i + j + 1) = S (i + j)) ∧ (m.testBit C = false → StepK P sf fi ops n0 (i + j) o m (S (i + j)) (S (i + j + 1)))) := by
  intro l
  induction l with
  | nil => intro i ms s R h hn; unfold evDrawOps at h; exact ⟨fun _ => s, i, rfl, Nat.le_refl _, by simp, fun _ => h.symm, fun j o m hj => by simp at hj⟩
  | cons o l ih =>
    intro i ms s R h hn
    cases ms with
    | nil => unfold evDrawOps at h; exact absurd h.symm hn
    | cons m ms =>
      unfold evDrawOps at h
      split at h
      · rename_i s1 hd
        obtain ⟨S, C, hS, hC, hC2, hR, hstep⟩ := ih (i + 1) ms s1 R h hn
        refine ⟨fun k => if k = i then s else S k, C, by simp, by omega, by simp; omega, fun e => ?_, ?_⟩
        · simp only [List.length_cons] at e ⊢
          simp only [if_neg (show ¬ (i + (l.length + 1) = i) by omega)]
          rw [show i + (l.length + 1) = i + 1 + l.length by omega]
          exact hR (by omega)
        intro j o' m' ho hm
        cases j with
        | zero =>
          simp at ho hm; subst ho; subst hm
          refine ⟨fun _ => by simpa [hS] using drawStep_done hd, fun e => by omega, fun e => by omega⟩
        | succ j =>
          simp at ho hm
          have := hstep j o' m' ho hm
          have e1 : i + 1 + j = i + (j + 1) := by omega
          rw [e1] at this
          simp only [if_neg (show ¬ (i + (j + 1) + 1 = i) by omega), if_neg (show ¬ (i + (j + 1) = i) by omega)]
          exact this
      · rename_i v Hp hd
        obtain ⟨S, hS, hR, hstep⟩ := trace_behind l (i + 1) ms _ R h hn
        refine ⟨fun k => if k = i then s else S k, i, by simp, Nat.le_refl _, by simp, fun e => by simp at e, ?_⟩
        intro j o' m' ho hm
        cases j with
        | zero =>
          simp at ho hm; subst ho; subst hm
          refine ⟨fun e => by omega, fun _ => ⟨v, Hp, hR, by simpa using drawStep_panic hd, by simp [hS]⟩, fun e => by omega⟩
        | succ j =>
          simp at ho hm
          have := hstep j o' m' ho hm
          have e1 : i + 1 + j = i + (j + 1) := by omega
          rw [e1] at this
          simp only [if_neg (show ¬ (i + (j + 1) + 1 = i) by omega), if_neg (show ¬ (i + (j + 1) = i) by omega)]
          exact ⟨fun e => by omega, fun e => by omega, fun _ => this⟩
      · exact absurd h.symm hn

theorem trace_of {n0 : Nat} {s : DS} {R : DR} (h : evDrawOps P sf fi ops n0 ops.toList 0 (predsOf ops.toList []) s none = R) (hn : R ≠ .fail) :
    ∃ S C, S 0 = s ∧ Trace P sf fi ops n0 S C R := by
  obtain ⟨S, C, h1, -, h3, h4, h5⟩ := trace_ahead _ _ _ _ _ h hn
  simp only [Nat.zero_add, Array.length_toList] at h3 h4 h5
  have get : ∀ i o, ops[i]? = some o → ops.toList[i]? = some o ∧ (predsOf ops.toList [])[i]? = some (pm ops i) := fun i o ho =>
    ⟨by simpa using ho, ms_get (Array.getElem?_eq_some_iff.1 ho).1⟩
  refine ⟨S, C, h1, h3, ?_, ?_, ?_, h4⟩
  · intro i o ho hc
    obtain ⟨g1, g2⟩ := get i o ho
    obtain ⟨p1, -, p3⟩ := h5 i o _ g1 g2
    rcases hc with hc | ⟨hc, hb⟩
    · exact p1 hc
    · exact (p3 hc).2 hb
  · intro i o ho hc hb
    obtain ⟨g1, g2⟩ := get i o ho
    exact ((h5 i o _ g1 g2).2.2 hc).1 hb
  · intro o ho
    obtain ⟨g1, g2⟩ := get C o ho
    exact (h5 C o _ g1 g2).2.1 rfl

end Go.Iv
