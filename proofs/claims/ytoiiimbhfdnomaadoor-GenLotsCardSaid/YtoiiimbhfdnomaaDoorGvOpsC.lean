/- The pure evaluator's operations are the ideal one's (the third part): numbers, comparisons, conversions, looks into lists and texts. -/
import Derived.Test.YtoiiimbhfdnomaaDoorGvOpsB
namespace Go.Gv
open Go Go.Iv

section
variable {β : Type} {P : Program} {hint : Hint} {Γ Γ1 : Gam} {Pu Pu1 : Nat → Prop} {H H1 : GH} {I I1 : IH} {K : TV → GH → Option β} {r : β}

/-! ### Whole numbers -/
theorem evBin_run {op : BinOp} {t : TypeId} {x y : Operand} {k k' : IntKind} {n m q : Int} (h : runP P (Go.binOp op t (.int k n) (.int k' m)) = some (.int k q))
    (ho : (match op with | .eql | .neq | .lss | .leq | .gtr | .geq | .add | .sub => false | _ => true) = true) : resV (evBin P I op t x y (.int k n) (.int k' m)) = some (.int k q, I) := by
  cases op <;> first | (simp only [evBin, h, free1, if_true, resV]; done) | (cases ho; done)

theorem gInt_ok (hs : Sim P hint Γ Pu H I) {op : BinOp} {t : TypeId} {x y : Operand} {k : IntKind} {n m : Int} (ho : op ≠ .shl ∧ op ≠ .shr) (h : gInt std H op k n m K = some r) : Good P hint K r Γ Pu H I (resV (evBin P I op t x y (.int k n) (.int k m))) := by
  unfold gInt at h
  cases op
  case shl => exact absurd rfl ho.1
  case shr => exact absurd rfl ho.2
  case eql => simp only [evBin, evEqOp, if_true, resV]; exact Good.same hs h (.bool _)
  case neq => simp only [evBin, evEqOp, if_true, resV]; exact Good.same hs h (.bool _)
  case lss => simp only [evBin, if_true, resV]; exact Good.same hs h (.bool _)
  case leq => simp only [evBin, if_true, resV]; exact Good.same hs h (.bool _)
  case gtr => simp only [evBin, if_true, resV]; exact Good.same hs h (.bool _)
  case geq => simp only [evBin, if_true, resV]; exact Good.same hs h (.bool _)
  case add => simp only [evBin, if_true, resV]; exact Good.same hs h (.int _ _)
  case sub => simp only [evBin, if_true, resV]; exact Good.same hs h (.int _ _)
  case mul => rw [evBin_run (run_mul P t k n m) rfl]; exact Good.same hs h (.int _ _)
  case quo =>
    replace h := need_some h; obtain ⟨hb, h⟩ := h
    rw [evBin_run (run_quo P t k n m (by simpa using hb)) rfl]; exact Good.same hs h (.int _ _)
  case rem =>
    replace h := need_some h; obtain ⟨hb, h⟩ := h
    rw [evBin_run (run_rem P t k n m (by simpa using hb)) rfl]; exact Good.same hs h (.int _ _)
  all_goals
    simp only at h
    split at h
    · rename_i q hq
      rw [evBin_run (run_bits P t hq) rfl]; exact Good.same hs h (.int _ _)
    · cases h

theorem gShift_ok (hs : Sim P hint Γ Pu H I) {op : BinOp} {t : TypeId} {x y : Operand} {k k' : IntKind} {n m : Int} (h : gShift std H op k n m K = some r) : Good P hint K r Γ Pu H I (resV (evBin P I op t x y (.int k n) (.int k' m))) := by
  unfold gShift at h
  replace h := need_some h; obtain ⟨hb, h⟩ := h
  have hm := ile_true hb
  split at h
  · rw [evBin_run (run_shl P t k k' n m hm) rfl]; exact Good.same hs h (.int _ _)
  · rw [evBin_run (run_shr P t k k' n m hm) rfl]; exact Good.same hs h (.int _ _)
  · cases h

theorem gByte_ok (hs : Sim P hint Γ Pu H I) {op : BinOp} {t : TypeId} {x y : Operand} {a b : UInt8} (h : gByte H op a b K = some r) : Good P hint K r Γ Pu H I (resV (evBin P I op t x y (.int .u8 a.toNat) (.int .u8 b.toNat))) := by
  unfold gByte at h
  split at h
  · simp only [evBin, evEqOp, if_true, resV, Bool.false_eq_true, if_false, byte_eq]; exact Good.same hs h (.bool _)
  · have : ((a.toNat : Int) != (b.toNat : Int)) = (a != b) := by unfold bne; rw [byte_eq]
    simp only [evBin, evEqOp, if_true, resV, this]; exact Good.same hs h (.bool _)
  · simp only [evBin, if_true, resV, byte_lt]; exact Good.same hs h (.bool _)
  · simp only [evBin, if_true, resV, byte_le]; exact Good.same hs h (.bool _)
  · simp only [evBin, if_true, resV, byte_lt]; exact Good.same hs h (.bool _)
  · simp only [evBin, if_true, resV, byte_le]; exact Good.same hs h (.bool _)
  · simp only [evBin, if_true, resV, byte_add]; exact Good.same hs h (.byte _)
  · simp only [evBin, if_true, resV, byte_sub]; exact Good.same hs h (.byte _)
  · rw [evBin_run (run_bits P t (byte_and a b)) rfl]; exact Good.same hs h (.byte _)
  · rw [evBin_run (run_bits P t (byte_or a b)) rfl]; exact Good.same hs h (.byte _)
  · rw [evBin_run (run_bits P t (byte_xor a b)) rfl]; exact Good.same hs h (.byte _)
  · cases h

theorem bl_ba (s : List UInt8) : bl (ba s) = s := rfl
theorem size_ba (s : List UInt8) : (ba s).size = s.length := rfl

theorem gStr_ok (hs : Sim P hint Γ Pu H I) {op : BinOp} {t : TypeId} {x y : Operand} {a b : List UInt8} (h : gStr std H op a b K = some r) : Good P hint K r Γ Pu H I (resV (evBin P I op t x y (.string (ba a)) (.string (ba b)))) := by
  unfold gStr at h
  split at h
  · simp only [evBin, evEqOp, resV, Bool.false_eq_true, if_false, bl_ba]; exact Good.same hs h (.bool _)
  · simp only [evBin, evEqOp, resV, if_true, bl_ba]; exact Good.same hs h (.bool _)
  · simp only [evBin, resV, bl_ba]; exact Good.same hs h (.bool _)
  · replace h := need_some h; obtain ⟨hb, h⟩ := h
    have hle := ble_true hb
    simp only [evBin]
    rw [if_pos (show (ba a).size + (ba b).size ≤ roomy from hle)]; exact Good.same hs h (.str _)
  · cases h

/-! ### Nil -/
theorem nil_of {v' : Value} (hl : GR Γ Pu I nilS v') : v' = .slice none 0 0 := by
  cases hl; rfl

theorem lst_nilB {e : Sh} {xs : List e.ty} {v : Value} (h : Enc Pu I (.slc e) xs [v]) : ∃ a l c, v = .slice a l c ∧ (nilB v = true → xs = []) ∧ nilB v = a.isNone := by
  unfold Enc at h
  rcases h with ⟨h1, h2⟩ | ⟨b, off, cap, cs, et, fz, ex, sd, h, _⟩
  · cases h2; exact ⟨_, _, _, rfl, fun _ => h1, rfl⟩
  · cases h; exact ⟨_, _, _, rfl, (fun h => by cases h), rfl⟩

theorem evEq_nilR {t e : TypeId} (hu : P.underlying t = some (.slice e)) (a : Option Addr) (l c : Nat) : evEq P I t (.slice a l c) (.slice none 0 0) = some a.isNone := by
  unfold evEq; rw [hu]; cases a <;> rfl
theorem evEq_nilL {t e : TypeId} (hu : P.underlying t = some (.slice e)) (a : Option Addr) (l c : Nat) : evEq P I t (.slice none 0 0) (.slice a l c) = some a.isNone := by
  unfold evEq; rw [hu]

theorem evEqOp_of {neg : Bool} {t : TypeId} {x y : Operand} {a b : Value} {q : Bool} (h : evEq P I t a b = some q) (ha : ∀ k n, a ≠ .int k n) (hb : ∀ s, a ≠ .string s) : evEqOp P I neg t x y a b = some (.val (.bool (if neg then !q else q)) I) := by
  unfold evEqOp
  split
  · exact absurd rfl (ha _ _)
  · exact absurd rfl (hb _)
  · rw [h]

theorem SlV.some {l : Loc} {off len : Nat} {v : Value} (h : SlV l off len v) : ∃ a c, v = .slice a len c ∧ (a = none → len = 0 ∧ l.pos = none) ∧ (a ≠ none → l.pos ≠ none) := by
  unfold SlV at h
  split at h
  · rename_i hp; obtain ⟨rfl, rfl⟩ := h; exact ⟨none, 0, rfl, fun _ => ⟨rfl, hp⟩, fun h => absurd rfl h⟩
  · rename_i b o hp; obtain ⟨cap, rfl, _⟩ := h; exact ⟨_, cap, rfl, (fun h => by cases h), fun _ h => by rw [h] at hp; cases hp⟩

theorem eqRes (neg : Bool) {t : TypeId} {x y : Operand} {a b : Value} {q : Bool} (h : evEqOp P I neg t x y a b = some (.val (.bool q) I)) : resV (evBin P I (if neg then .neq else .eql) t x y a b) = some (.bool q, I) := by
  cases neg
  · simp only [Bool.false_eq_true, if_false, evBin, h, resV]
  · simp only [if_true, evBin, h, resV]

theorem gEqNil_ok (hs : Sim P hint Γ Pu H I) {neg : Bool} {t : TypeId} {x y : Operand} {a b : TV} {a' b' : Value} (h : gEqNil std P H neg t a b K = some r) (ha : GR Γ Pu I a a') (hb : GR Γ Pu I b b') :
    Good P hint K r Γ Pu H I (resV (evBin P I (if neg then .neq else .eql) t x y a' b')) := by
  have go : ∀ {q : Bool}, evEq P I t a' b' = some q → (∀ k n, a' ≠ .int k n) → (∀ s, a' ≠ .string s) → K (.bool (if neg then !q else q)) H = some r → Good P hint K r Γ Pu H I (resV (evBin P I (if neg then .neq else .eql) t x y a' b')) := by
    intro q h1 h2 h3 h4
    rw [eqRes neg (evEqOp_of h1 h2 h3)]
    exact Good.same hs h4 (.bool _)
  unfold gEqNil at h
  split at h
  -- lists that are known to be nil or not
  · rename_i e _ _ _ c _ hu
    cases hb; cases ha with | lst he hn _ =>
    obtain ⟨aa, l, cc, rfl, _, hnb⟩ := lst_nilB he
    refine go (evEq_nilR hu aa l cc) (by intros; simp) (by intros; simp) ?_
    rw [← hnb, hn c rfl]; exact h
  · rename_i e _ _ c _ hu
    cases ha; cases hb with | lst he hn _ =>
    obtain ⟨aa, l, cc, rfl, _, hnb⟩ := lst_nilB he
    refine go (evEq_nilL hu aa l cc) (by intros; simp) (by intros; simp) ?_
    rw [← hnb, hn c rfl]; exact h
  · rename_i e _ xs _ hu
    cases hb; cases ha with | lst he hn _ =>
    replace h := need_some h; obtain ⟨hx, h⟩ := h
    obtain ⟨aa, l, cc, rfl, hn2, hnb⟩ := lst_nilB he
    refine go (evEq_nilR hu aa l cc) (by intros; simp) (by intros; simp) ?_
    have : aa.isNone = false := by
      cases hq : aa.isNone with
      | false => rfl
      | true => rw [hn2 (hnb.trans hq)] at hx; cases hx
    rw [this]; cases neg <;> exact h
  · rename_i e _ xs _ hu
    cases ha; cases hb with | lst he hn _ =>
    replace h := need_some h; obtain ⟨hx, h⟩ := h
    obtain ⟨aa, l, cc, rfl, hn2, hnb⟩ := lst_nilB he
    refine go (evEq_nilL hu aa l cc) (by intros; simp) (by intros; simp) ?_
    have : aa.isNone = false := by
      cases hq : aa.isNone with
      | false => rfl
      | true => rw [hn2 (hnb.trans hq)] at hx; cases hx
    rw [this]; cases neg <;> exact h
  · rename_i e _ id hu
    cases hb; cases ha with | all hl hv =>
    split at h
    · rename_i et e' xs w fz em hg
      obtain ⟨l', hl', ho⟩ := hs.obj id _ hg
      cases hl.symm.trans hl'
      obtain ⟨aa, c, rfl, h1, h2⟩ := hv.some
      obtain ⟨o1, o2, o3, o4⟩ := ho
      have hem : em = true → aa.isNone = xs.isEmpty := fun hem => by
        rcases o4 with ⟨p1, p2, _⟩ | ⟨b, o, vs, f, ex, sd, p1, p2, _⟩
        · cases aa with
          | none => rw [p2]; rfl
          | some a => exact absurd p1 (h2 (by simp))
        · cases aa with
          | none => exact absurd (h1 rfl).2 (by rw [p1]; simp)
          | some a =>
            have := p2 hem
            cases xs with
            | nil => exact absurd rfl this
            | cons => rfl
      have hne : (!xs.isEmpty) = true → aa.isNone = false := fun hx => by
        cases aa with
        | some a => rfl
        | none =>
          have := (h1 rfl).1
          rw [o1] at this
          rw [List.eq_nil_of_length_eq_zero this] at hx; cases hx
      cases em with
      | true =>
        simp only [cond_true] at h
        refine go (evEq_nilR hu aa _ c) (by intros; simp) (by intros; simp) ?_
        rw [hem rfl]; exact h
      | false =>
        simp only [cond_false] at h
        replace h := need_some h; obtain ⟨hx, h⟩ := h
        refine go (evEq_nilR hu aa _ c) (by intros; simp) (by intros; simp) ?_
        rw [hne hx]; cases neg <;> exact h
    · cases h
  · rename_i e _ id hu
    cases ha; cases hb with | all hl hv =>
    split at h
    · rename_i et e' xs w fz em hg
      obtain ⟨l', hl', ho⟩ := hs.obj id _ hg
      cases hl.symm.trans hl'
      obtain ⟨aa, c, rfl, h1, h2⟩ := hv.some
      obtain ⟨o1, o2, o3, o4⟩ := ho
      have hem : em = true → aa.isNone = xs.isEmpty := fun hem => by
        rcases o4 with ⟨p1, p2, _⟩ | ⟨b, o, vs, f, ex, sd, p1, p2, _⟩
        · cases aa with
          | none => rw [p2]; rfl
          | some a => exact absurd p1 (h2 (by simp))
        · cases aa with
          | none => exact absurd (h1 rfl).2 (by rw [p1]; simp)
          | some a =>
            have := p2 hem
            cases xs with
            | nil => exact absurd rfl this
            | cons => rfl
      have hne : (!xs.isEmpty) = true → aa.isNone = false := fun hx => by
        cases aa with
        | some a => rfl
        | none =>
          have := (h1 rfl).1
          rw [o1] at this
          rw [List.eq_nil_of_length_eq_zero this] at hx; cases hx
      cases em with
      | true =>
        simp only [cond_true] at h
        refine go (evEq_nilL hu aa _ c) (by intros; simp) (by intros; simp) ?_
        rw [hem rfl]; exact h
      | false =>
        simp only [cond_false] at h
        replace h := need_some h; obtain ⟨hx, h⟩ := h
        refine go (evEq_nilL hu aa _ c) (by intros; simp) (by intros; simp) ?_
        rw [hne hx]; cases neg <;> exact h
    · cases h
  · rename_i e _ _ len hu
    cases hb; cases ha with | own hl hle hv =>
    replace h := need_some h; obtain ⟨hx, h⟩ := h
    obtain ⟨aa, c, rfl, h1, h2⟩ := hv.some
    refine go (evEq_nilR hu aa _ c) (by intros; simp) (by intros; simp) ?_
    have : aa.isNone = false := by
      cases aa with
      | some a => rfl
      | none => rw [(h1 rfl).1] at hx; cases hx
    rw [this]; cases neg <;> exact h
  · rename_i e _ _ len hu
    cases ha; cases hb with | own hl hle hv =>
    replace h := need_some h; obtain ⟨hx, h⟩ := h
    obtain ⟨aa, c, rfl, h1, h2⟩ := hv.some
    refine go (evEq_nilL hu aa _ c) (by intros; simp) (by intros; simp) ?_
    have : aa.isNone = false := by
      cases aa with
      | some a => rfl
      | none => rw [(h1 rfl).1] at hx; cases hx
    rw [this]; cases neg <;> exact h
  · rename_i e hu
    cases ha; cases hb
    refine go (evEq_nilL hu none 0 0) (by intros; simp) (by intros; simp) ?_
    cases neg <;> exact h
  · rename_i e hu
    cases ha; cases hb
    refine go (q := true) (by unfold evEq; rw [hu]; rfl) (by intros; simp) (by intros; simp) ?_
    cases neg <;> exact h
  · rename_i e _ _ hu
    cases hb; cases ha
    refine go (q := false) (by unfold evEq; rw [hu]) (by intros; simp) (by intros; simp) ?_
    cases neg <;> exact h
  · rename_i e _ _ hu
    cases ha; cases hb
    refine go (q := false) (by unfold evEq; rw [hu]; rfl) (by intros; simp) (by intros; simp) ?_
    cases neg <;> exact h
  · rename_i e id o id' o' hu
    replace h := bif_some h; obtain ⟨hx, h⟩ := h
    replace hx := Go.Gv.and_true hx; obtain ⟨hx, hx3⟩ := hx
    replace hx := Go.Gv.and_true hx; obtain ⟨hx, hx2⟩ := hx
    have hid := beq_true hx
    subst hid
    cases ha with | ptr a1 a2 =>
    cases hb with | ptr b1 b2 =>
    cases a1.symm.trans b1
    cases a2.symm.trans b2
    rename_i b l
    have hsome : (I.get b).isSome = true := by
      cases hg : H.get id with
      | none => rw [hg] at hx3; cases hx3
      | some ob =>
        obtain ⟨l', hl', ho⟩ := hs.obj id ob hg
        cases a1.symm.trans hl'
        cases ob with
        | cells et cs w => obtain ⟨b', vs, fz, ex, sd, hp', hb', _⟩ := ho; cases a2.symm.trans hp'; rw [hb']; rfl
        | arr et e xs w fz em =>
          obtain ⟨_, _, _, h1 | ⟨b', o, vs, f, ex, sd, hp', _, hb', _⟩⟩ := ho
          · rw [h1.1] at a2; cases a2
          · cases a2.symm.trans hp'; rw [hb']; rfl
        | iter s pos => obtain ⟨b', hp', _, hb'⟩ := ho; cases a2.symm.trans hp'; rw [hb']; rfl
        | loop fid st pd fi E ps asg body => obtain ⟨b', E', hp', _, hb', _⟩ := ho; cases a2.symm.trans hp'; rw [hb']; rfl
    have hq : (o == o') = Nat.beq o o' := by rw [Bool.eq_iff_iff]; simp [Nat.beq_eq]
    refine go (q := Nat.beq o o') (by unfold evEq; rw [hu]; simp only [beq_self_eq_true, hx2, hsome, Bool.and_self, if_true, hq]) (by intros; simp) (by intros; simp) h
  · rename_i hu
    cases hb; cases ha
    refine go (q := false) (by unfold evEq; rw [hu]) (by intros; simp) (by intros; simp) ?_
    cases neg <;> exact h
  · rename_i hu
    cases ha; cases hb
    refine go (q := false) (by unfold evEq; rw [hu]) (by intros; simp) (by intros; simp) ?_
    cases neg <;> exact h
  · rename_i hu
    cases ha; cases hb
    refine go (q := true) (by unfold evEq; rw [hu]) (by intros; simp) (by intros; simp) ?_
    cases neg <;> exact h
  · cases h

theorem gBin_ok (hs : Sim P hint Γ Pu H I) {op : BinOp} {t : TypeId} {x y : Operand} {a b : TV} {a' b' : Value} (h : gBin std P H op t a b K = some r) (ha : GR Γ Pu I a a') (hb : GR Γ Pu I b b') :
    Good P hint K r Γ Pu H I (resV (evBin P I op t x y a' b')) := by
  unfold gBin at h
  split at h
  · cases ha; cases hb
    split at h
    · exact gShift_ok hs h
    · exact gShift_ok hs h
    · rename_i h1 h2
      split at h
      · rename_i hk; subst hk
        exact gInt_ok hs ⟨fun e => h1 e, fun e => h2 e⟩ h
      · cases h
  · cases ha; cases hb; exact gByte_ok hs h
  · cases ha; cases hb; exact gStr_ok hs h
  · cases ha; cases hb
    rename_i p q
    have ne : evEq P I t (.bool p) (.bool q) = none := by unfold evEq; split <;> first | rfl | (rename_i hh; cases hh) | contradiction
    split at h
    · rename_i hu
      have : evBin P I .eql t x y (.bool p) (.bool q) = some (.val (.bool (p == q)) I) := by
        simp only [evBin, evEqOp, ne, free, free1, Bool.and_self, if_true, Bool.false_eq_true, if_false, run_eq_bool hu]
      rw [this]; exact Good.same hs h (.bool _)
    · rename_i hu
      have : evBin P I .neq t x y (.bool p) (.bool q) = some (.val (.bool (!(p == q))) I) := by
        simp only [evBin, evEqOp, ne, free, free1, Bool.and_self, if_true, run_ne_bool hu]
      rw [this]; exact Good.same hs h (.bool _)
    · cases h
  · split at h
    · exact gEqNil_ok (neg := false) hs h ha hb
    · exact gEqNil_ok (neg := true) hs h ha hb
    · cases h

theorem gUn_ok (hs : Sim P hint Γ Pu H I) {op : UnOp} {a : TV} {a' : Value} (h : gUn H op a K = some r) (ha : GR Γ Pu I a a') : Good P hint K r Γ Pu H I (resV (evUn P I op a')) := by
  unfold gUn at h
  split at h
  · cases ha; exact Good.same hs h (.bool _)
  · cases ha
    rename_i k n
    have : runP P (Op.unary .neg (.int k n)) = some (.int k (k.wrap (0 - n))) := rfl
    simp only [evUn, this, free1, if_true, resV]
    exact Good.same hs h (.int _ _)
  · cases h
end
end Go.Gv
