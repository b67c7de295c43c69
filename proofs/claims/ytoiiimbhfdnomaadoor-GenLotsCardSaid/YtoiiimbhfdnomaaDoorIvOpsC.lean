/- The operations, one by one (the third part). -/
import Derived.Test.YtoiiimbhfdnomaaDoorIvOpsB
namespace Go.Iv
open Go

variable {P : Program} {Γ : Ga} {H : IH} {w : World}

theorem bl_toList (s : ByteArray) : s.toList = bl s := ByteArray.toList_eq s
theorem ba_bl (s : ByteArray) : ba (bl s) = s := by cases s; rfl
theorem ba_append (s r : ByteArray) : s ++ r = ba (bl s ++ bl r) := by
  apply ByteArray.ext
  simp only [ByteArray.data_append, ba, bl]
  apply Array.toList_inj.1
  simp

/-- The whole of an operator's meaning. -/
abbrev binNext (P : Program) (op : BinOp) (t : TypeId) (x y : Operand) (a b : Value) (w : World) : Result Next :=
  ((do pure (.value (← (do eqGuard op t x y a b; Go.binOp op t a b : Sem Value)))) : Sem Next).run P w

theorem binNext_pure {op : BinOp} {t : TypeId} {x y : Operand} {a b v : Value} (hg : eqGuard op t x y a b = pure ()) (hb : (Go.binOp op t a b).run P w = .ok v w) :
    binNext P op t x y a b w = .ok (.value v) w := by
  simp [binNext, hg, hb]

def negOp (neg : Bool) : BinOp := if neg then .neq else .eql

/-- A value that is held against another by 'equal'. -/
def byEqual : Value → Bool
  | .pointer _ | .slice .. | .map _ | .func .. | .nilFunc | .iface .. | .nilIface | .bool _ => true
  | _ => false

theorem binOp_negOp (neg : Bool) (t : TypeId) {a b : Value} (ha : byEqual a = true) :
    (Go.binOp (negOp neg) t a b).run P w = ((Op.equal t a b).run P w).andThen fun r w' => .ok (.bool (if neg then !r else r)) w' := by
  cases neg <;> cases a <;> first | (simp [byEqual] at ha; done) | (cases b <;> simp [negOp, Go.binOp])

theorem equal_step (t : TypeId) (a b : Value) : Op.equal t a b = Op.equalIn (9999 + 1) t a b := rfl

theorem addr_beq (b o o' : Nat) : (Γ.at b o == Γ.at b o') = (o == o') := by
  by_cases h : o = o'
  · subst h; simp
  · have : Γ.at b o ≠ Γ.at b o' := by
      intro e
      simp only [Ga.at, Addr.mk.injEq] at e
      omega
    rw [beq_eq_false_iff_ne.2 this, beq_eq_false_iff_ne.2 h]

/-- What evEq answers is what 'equal' gives. -/
theorem evEq_run {t : TypeId} {a b a' b' : Value} {r : Bool} (h : evEq P H t a b = some r) (ha : VR Γ w a a') (hb : VR Γ w b b') :
    (byEqual a' = true ∨ ∃ s r, a' = .string s ∧ b' = .string r) ∧ (byEqual a' = true → (Op.equal t a' b').run P w = .ok r w) := by
  unfold evEq at h
  split at h
  all_goals (first | (cases h; done) | skip)
  · rename_i s s' hu
    rw [ha.stringE, hb.stringE]
    exact ⟨.inr ⟨_, _, rfl, rfl⟩, fun h => by simp [byEqual] at h⟩
  · rename_i e p hu
    cases h
    rw [ha.pnilE]
    refine ⟨.inl rfl, fun _ => ?_⟩
    rw [equal_step, Op.equalIn]
    cases p with
    | none => rw [hb.pnilE]; simp [run_underlying hu]
    | some p => obtain ⟨b1, o1, rfl, _, rfl⟩ := hb.ptrE; simp [run_underlying hu]
  · rename_i e p hu
    cases h
    obtain ⟨b1, o1, rfl, _, rfl⟩ := ha.ptrE
    rw [hb.pnilE]
    refine ⟨.inl rfl, fun _ => ?_⟩
    rw [equal_step, Op.equalIn]
    simp [run_underlying hu]
  · rename_i e b1 o1 b2 o2 hu
    split at h
    · rename_i hc
      cases h
      simp only [Bool.and_eq_true, beq_iff_eq, bne_iff_ne, ne_eq] at hc
      obtain ⟨⟨hbb, hsz⟩, _⟩ := hc
      subst hbb
      obtain ⟨b3, o3, e3, hd, rfl⟩ := ha.ptrE
      cases e3
      obtain ⟨b4, o4, e4, _, rfl⟩ := hb.ptrE
      cases e4
      refine ⟨.inl rfl, fun _ => ?_⟩
      rw [equal_step, Op.equalIn]
      cases hi : P.info? e with
      | none => simp [hi] at hsz
      | some i =>
        simp only [hi, Option.map_some, Option.getD_some] at hsz
        have : (sameAddr (Γ.at b1 o1) (Γ.at b1 o2)).run P w = .ok (o1 == o2) w := by
          rw [← addr_beq (Γ := Γ) b1]
          simp [sameAddr, Ga.at]
        simp [run_underlying hu, run_sizeOf' hi, hsz, this]
    · cases h
  · rename_i e l c p n m hu
    cases h
    obtain ⟨rfl, rfl, rfl⟩ := ha.snilE
    refine ⟨.inl rfl, fun _ => ?_⟩
    rw [equal_step, Op.equalIn]
    cases p with
    | none => obtain ⟨_, _, rfl⟩ := hb.snilE; simp [run_underlying hu]
    | some p =>
      obtain ⟨b1, o1, rfl, _, hs⟩ := hb.sliceE
      rcases hs with ⟨_, _, _, rfl, _⟩ | ⟨s, c', a', _, rfl, _, _⟩ <;> simp [run_underlying hu]
  · rename_i e p l c n m hu
    cases h
    obtain ⟨_, _, rfl⟩ := hb.snilE
    obtain ⟨b1, o1, rfl, _, hs⟩ := ha.sliceE
    rcases hs with ⟨_, _, _, rfl, _⟩ | ⟨s, c', a', _, rfl, _, _⟩
    all_goals
      refine ⟨.inl rfl, fun _ => ?_⟩
      rw [equal_step, Op.equalIn]
      simp [run_underlying hu]
  · rename_i k e p hu
    cases h
    rw [ha.mnilE]
    refine ⟨.inl rfl, fun _ => ?_⟩
    rw [equal_step, Op.equalIn]
    cases p with
    | none => rw [hb.mnilE]; simp [run_underlying hu]
    | some p => rw [hb.mapE.2]; simp [run_underlying hu]
  · rename_i k e p hu
    cases h
    rw [ha.mapE.2, hb.mnilE]
    refine ⟨.inl rfl, fun _ => ?_⟩
    rw [equal_step, Op.equalIn]
    simp [run_underlying hu]
  · rename_i ps rs v hu
    cases h
    rw [ha.nilFuncE, hb.nilFuncE]
    refine ⟨.inl rfl, fun _ => ?_⟩
    rw [equal_step, Op.equalIn]
    simp [run_underlying hu]
  · rename_i ps rs v fn x y hu
    cases h
    rw [ha.nilFuncE]
    refine ⟨.inl rfl, fun _ => ?_⟩
    rw [equal_step, Op.equalIn]
    cases hb with
    | func => simp [run_underlying hu]
    | yield => simp [run_underlying hu]
  · rename_i ps rs v fn x y hu
    cases h
    rw [hb.nilFuncE]
    cases ha with
    | func => exact ⟨.inl rfl, fun _ => by rw [equal_step, Op.equalIn]; simp [run_underlying hu]⟩
    | yield => exact ⟨.inl rfl, fun _ => by rw [equal_step, Op.equalIn]; simp [run_underlying hu]⟩
  · rename_i ms d v hu
    cases h
    rw [ha.nilIfaceE]
    obtain ⟨x, rfl, _⟩ := hb.ifaceE
    exact ⟨.inl rfl, fun _ => by rw [equal_step, Op.equalIn]; simp [run_underlying hu]⟩
  · rename_i ms d v hu
    cases h
    rw [hb.nilIfaceE]
    obtain ⟨x, rfl, _⟩ := ha.ifaceE
    exact ⟨.inl rfl, fun _ => by rw [equal_step, Op.equalIn]; simp [run_underlying hu]⟩

theorem guard_byEqual {neg : Bool} {t : TypeId} {x y : Operand} {a b : Value} (h : byEqual a = true) (hn : a = .nilIface → b ≠ .nilIface) : eqGuard (negOp neg) t x y a b = pure () := by
  cases a <;> first | (simp [byEqual] at h; done) | (cases neg <;> cases b <;> first | rfl | (exact absurd rfl (hn rfl)))

theorem evEqOp_good (hR : Rh Γ H w) {neg : Bool} {t : TypeId} {x y : Operand} {a b a' b' : Value} {res : OpRes} (h : evEqOp P H neg t x y a b = some res) (ha : VR Γ w a a') (hb : VR Γ w b b') :
    Good Γ H w (binNext P (negOp neg) t x y a' b' w) res := by
  unfold evEqOp at h
  split at h
  · rename_i k n k' m
    split at h
    · rename_i hk
      subst hk
      cases h
      rw [ha.intE, hb.intE]
      refine good_same hR (.bool _) (binNext_pure (eqGuard_at_int ..) ?_)
      cases neg
      · simp [negOp, binOp_eql]
      · simp [negOp, binOp_neq]
    · cases h
  · rename_i s r
    cases h
    rw [ha.stringE, hb.stringE]
    refine good_same hR (.bool _) (binNext_pure (eqGuard_at_string ..) ?_)
    cases neg
    · simp [negOp, binOp_string_eql, bl_toList]
    · simp [negOp, binOp_string_neq, bl_toList]
  · rename_i hni hns
    split at h
    · rename_i r hr
      cases h
      have key := evEq_run (P := P) hr ha hb
      rcases key.1 with hbe | ⟨s, s', rfl, rfl⟩
      · refine good_same hR (.bool _) (binNext_pure (guard_byEqual hbe ?_) ?_)
        · rintro rfl rfl
          have h1 : a = .nilIface := by cases ha with | nilIface => rfl | poison => simp [evEq] at hr
          have h2 : b = .nilIface := by cases hb with | nilIface => rfl | poison => subst h1; simp [evEq] at hr
          subst h1 h2
          simp [evEq] at hr
        · rw [binOp_negOp neg t hbe, key.2 hbe]; rfl
      · exfalso
        have h1 : a = .string s := by cases ha with | string => rfl | poison => simp [evEq] at hr
        have h2 : b = .string s' := by cases hb with | string => rfl | poison => subst h1; simp [evEq] at hr
        exact hns s s' h1 h2
    · split at h
      · rename_i hf
        simp only [Bool.and_eq_true] at hf
        split at h
        · rename_i v hv
          split at h
          · rename_i hok
            cases h
            rw [ha.eq_of_free hf.1, hb.eq_of_free hf.2]
            exact good_same hR (.of_free1 hok) (run_asNext (runP_run hv w))
          · cases h
        · cases h
      · cases h

theorem binOp_ints {op : BinOp} {t : TypeId} {x y : Operand} {k k' : IntKind} {n m : Int} {v : Value} (hR : Rh Γ H w) (h : runP P (Go.binOp op t (.int k n) (.int k' m)) = some v) (hf : free1 v = true) :
    Good Γ H w (binNext P op t x y (.int k n) (.int k' m) w) (.val v H) :=
  good_same hR (.of_free1 hf) (binNext_pure (eqGuard_at_int ..) (runP_run h w))

theorem evBin_good (hR : Rh Γ H w) {op : BinOp} {t : TypeId} {x y : Operand} {a b a' b' : Value} {res : OpRes} (h : evBin P H op t x y a b = some res) (ha : VR Γ w a a') (hb : VR Γ w b b') :
    Good Γ H w (binNext P op t x y a' b' w) res := by
  unfold evBin at h
  split at h
  · exact evEqOp_good hR h ha hb
  · exact evEqOp_good hR h ha hb
  · split at h
    · split at h
      · rename_i hk; subst hk; cases h; rw [ha.intE, hb.intE]
        exact good_same hR (.bool _) (binNext_pure (eqGuard_at_int ..) (by rw [binOp_lss, ilt_eq]; rfl))
      · cases h
    · cases h; rw [ha.stringE, hb.stringE]
      exact good_same hR (.bool _) (binNext_pure (eqGuard_at_string ..) (by rw [binOp_string_lss, bl_toList, bl_toList]; rfl))
    · cases h
  · split at h
    · split at h
      · rename_i hk; subst hk; cases h; rw [ha.intE, hb.intE]
        exact good_same hR (.bool _) (binNext_pure (eqGuard_at_int ..) (by rw [binOp_leq, ile_eq]; rfl))
      · cases h
    · cases h
  · split at h
    · split at h
      · rename_i hk; subst hk; cases h; rw [ha.intE, hb.intE]
        exact good_same hR (.bool _) (binNext_pure (eqGuard_at_int ..) (by rw [binOp_gtr, ilt_eq]; rfl))
      · cases h
    · cases h
  · split at h
    · split at h
      · rename_i hk; subst hk; cases h; rw [ha.intE, hb.intE]
        exact good_same hR (.bool _) (binNext_pure (eqGuard_at_int ..) (by rw [binOp_geq, ile_eq]; rfl))
      · cases h
    · cases h
  · split at h
    · split at h
      · rename_i hk; subst hk; cases h; rw [ha.intE, hb.intE]
        exact good_same hR (.int _ _) (binNext_pure (eqGuard_at_int ..) (by rw [binOp_add]; rfl))
      · cases h
    · split at h
      · rename_i hsz
        cases h; rw [ha.stringE, hb.stringE]
        refine good_same hR (.string _) (binNext_pure (eqGuard_at_string ..) ?_)
        rename_i s r
        have : ¬ ((s.size + r.size : Nat) : Int) > IntKind.i64.max := by
          have e : IntKind.i64.max = 9223372036854775807 := by decide
          have e2 : roomy = 1099511627776 := by decide
          rw [e]; rw [e2] at hsz; omega
        rw [binOp_string_add]
        simp only [Op.stringOp, if_neg this, ba_append]
        rfl
      · cases h
    · cases h
  · split at h
    · split at h
      · rename_i hk; subst hk; cases h; rw [ha.intE, hb.intE]
        exact good_same hR (.int _ _) (binNext_pure (eqGuard_at_int ..) (by rw [binOp_sub]; rfl))
      · cases h
    · cases h
  · split at h
    · split at h
      · rename_i v hv
        split at h
        · rename_i hf
          cases h; rw [ha.intE, hb.intE]
          exact binOp_ints hR hv hf
        · cases h
      · cases h
    · cases h

theorem evUn_good (hR : Rh Γ H w) {op : UnOp} {a a' : Value} {res : OpRes} (h : evUn P H op a = some res) (ha : VR Γ w a a') : Good Γ H w ((asNext (Op.unary op a')).run P w) res := by
  unfold evUn at h
  split at h
  · split at h
    · cases h; rw [ha.boolE]; exact good_same hR (.bool _) (run_asNext rfl)
    · cases h
  · split at h
    · rename_i v hv
      split at h
      · rename_i hf
        cases h; rw [ha.intE]; exact good_same hR (.of_free1 hf) (run_asNext (runP_run hv w))
      · cases h
    · cases h
  · cases h

theorem evNilCheck_good (hR : Rh Γ H w) {o : Oper} {x : Operand} {ρ : Operand → Value} (ho : o.op = .nilCheck x) {a : Value} {res : OpRes} (h : evNilCheck H a = some res) (ha : VR Γ w a (ρ x)) :
    Good Γ H w ((execOp ρ o).run P w) res := by
  unfold evNilCheck at h
  split at h
  · cases h
    obtain ⟨b, o', rfl, hd, e⟩ := ha.ptrE
    exact good_same hR (.ptr hd) (by simp only [execOp, ho, e]; rfl)
  · cases h
    obtain ⟨a', c', e, h1, h2⟩ := ha.funcE rfl
    exact good_same hR (.func rfl h1 h2) (by simp only [execOp, ho, e]; rfl)
  · cases h
    obtain ⟨rfl, rfl, hd, e⟩ := ha.yieldE
    exact good_same hR (.yield hd) (by simp only [execOp, ho, e]; rfl)
  · cases h

/-! ### Maps -/
theorem mapTy_spec {t k e : TypeId} (h : mapTy P t = some (k, e)) : P.underlying t = some (.map k e) := by
  unfold mapTy at h
  split at h
  · rename_i k' e' hu; cases h; exact hu
  · cases h

theorem keyGo_free {empty : Bool} {kt : TypeId} {k : Value} (h : keyGo P empty kt k = true) : free k = true := by
  unfold keyGo at h
  split at h
  · rfl
  · rfl
  · rfl
  · simp only [Bool.and_eq_true] at h; exact h.1
  · cases h

theorem keyGo_check {empty : Bool} {kt : TypeId} {k : Value} (h : keyGo P empty kt k = true) : (Instr.checkKey empty 10000 kt k).run P w = .ok () w := by
  unfold keyGo at h
  split at h
  · rename_i hu; rw [show (10000 : Nat) = 9999 + 1 from rfl, Instr.checkKey]; simp [run_underlying hu]
  · rename_i hu; rw [show (10000 : Nat) = 9999 + 1 from rfl, Instr.checkKey]; simp [run_underlying hu]
  · rename_i hu; rw [show (10000 : Nat) = 9999 + 1 from rfl, Instr.checkKey]; simp [run_underlying hu]
  · simp only [Bool.and_eq_true] at h
    have h2 := h.2
    split at h2
    · rename_i hr; exact runP_run hr w
    · cases h2
  · cases h

def FindR (Γ : Ga) (w : World) : Option (Nat × Value) → Option (Nat × Value) → Prop
  | none, none => True
  | some (i, v), some (i', v') => i = i' ∧ VR Γ w v v'
  | _, _ => False

theorem bl_beq (a b : ByteArray) : (a == b) = (bl a == bl b) := by
  show (a.data == b.data) = (a.data.toList == b.data.toList)
  exact (Array.beq_toList a.data b.data).symm

theorem findNow_run {kt : TypeId} {d : TypeDesc} {k : Value} (hd : P.underlying kt = some d) (hs : (∃ q n, k = .int q n) ∧ (∃ q, d = .int q) ∨ (∃ s, k = .string s) ∧ d = .string ∨ (∃ b, k = .bool b) ∧ d = .bool) :
    ∀ {es es' : List MapEntry}, EntR Γ w es es' → ∀ {i : Nat} {r : Option (Nat × Value)}, findE P kt k es i = some r → ∃ r', Instr.findNow d k es' i = some r' ∧ FindR Γ w r r' := by
  intro es es' hE
  induction hE with
  | nil => intro i r h; simp only [findE, Option.some.injEq] at h; subst h; exact ⟨none, rfl, trivial⟩
  | @cons e e' l l' hk hf hv hb t ih =>
    intro i r h
    have hkey := hk.eq_of_free hf
    simp only [findE] at h
    have key : keyCmp P kt k e.key = some true ∨ keyCmp P kt k e.key = some false := by
      split at h
      · rename_i hc; exact .inl hc
      · rename_i hc; exact .inr hc
      · cases h
    have hn : Instr.sameNow d k e'.key = keyCmp P kt k e.key := by
      rw [hkey]
      rcases hs with ⟨⟨q, n, rfl⟩, ⟨q', rfl⟩⟩ | ⟨⟨s, rfl⟩, rfl⟩ | ⟨⟨b, rfl⟩, rfl⟩
      · cases hek : e.key <;> simp_all [keyCmp, Instr.sameNow]
      · cases hek : e.key <;> simp_all [keyCmp, Instr.sameNow, bl_beq]
      · cases hek : e.key <;> simp_all [keyCmp, Instr.sameNow]
    rcases key with hc | hc
    · simp only [hc, Option.some.injEq] at h
      subst h
      exact ⟨some (i, e'.val), by simp only [Instr.findNow, hn, hc], rfl, hv⟩
    · simp only [hc] at h
      obtain ⟨r', h1, h2⟩ := ih h
      exact ⟨r', by simp only [Instr.findNow, hn, hc]; exact h1, h2⟩

theorem findAsking_run {kt : TypeId} {cs : Array Value} :
    ∀ {es es' : List MapEntry}, EntR Γ w es es' → ∀ {i : Nat} {r : Option (Nat × Value)}, findE P kt (.agg cs) es i = some r → ∃ r', (Instr.findAsking kt (.agg cs) es' i).run P w = .ok r' w ∧ FindR Γ w r r' := by
  intro es es' hE
  induction hE with
  | nil => intro i r h; simp only [findE, Option.some.injEq] at h; subst h; exact ⟨none, by simp [Instr.findAsking], trivial⟩
  | @cons e e' l l' hk hf hv hb t ih =>
    intro i r h
    have hkey := hk.eq_of_free hf
    simp only [findE] at h
    have hrun : ∀ b, keyCmp P kt (.agg cs) e.key = some b → (Op.equal kt (.agg cs) e'.key).run P w = .ok b w := by
      intro b hb
      rw [hkey]
      unfold keyCmp at hb
      split at hb
      · rename_i heq _; cases heq
      · rename_i heq _; cases heq
      · rename_i heq _; cases heq
      · rename_i a b' heq hek; cases heq; rw [hek]; exact runP_run hb w
      · cases hb
    split at h
    · rename_i hc
      simp only [Option.some.injEq] at h
      subst h
      exact ⟨some (i, e'.val), by simp [Instr.findAsking, hrun _ hc], rfl, hv⟩
    · rename_i hc
      obtain ⟨r', h1, h2⟩ := ih h
      exact ⟨r', by simp [Instr.findAsking, hrun _ hc, h1], h2⟩
    · cases h

theorem findKey_run {empty : Bool} {kt : TypeId} {k : Value} (hgo : keyGo P empty kt k = true) {es es' : List MapEntry} (hE : EntR Γ w es es') {r : Option (Nat × Value)} (h : findE P kt k es 0 = some r) :
    ∃ r', (Instr.findKey kt k es').run P w = .ok r' w ∧ FindR Γ w r r' := by
  unfold keyGo at hgo
  split at hgo
  · rename_i q q' n hu
    obtain ⟨r', h1, h2⟩ := findNow_run hu (.inl ⟨⟨_, _, rfl⟩, ⟨_, rfl⟩⟩) hE h
    exact ⟨r', by simp [Instr.findKey, run_underlying hu, h1], h2⟩
  · rename_i s hu
    obtain ⟨r', h1, h2⟩ := findNow_run hu (.inr (.inl ⟨⟨_, rfl⟩, rfl⟩)) hE h
    exact ⟨r', by simp [Instr.findKey, run_underlying hu, h1], h2⟩
  · rename_i b hu
    obtain ⟨r', h1, h2⟩ := findNow_run hu (.inr (.inr ⟨⟨_, rfl⟩, rfl⟩)) hE h
    exact ⟨r', by simp [Instr.findKey, run_underlying hu, h1], h2⟩
  · rename_i fs cs hu
    obtain ⟨r', h1, h2⟩ := findAsking_run hE h
    refine ⟨r', ?_, h2⟩
    simp only [Instr.findKey, Sem.run_bind, run_underlying hu, Result.andThen_ok]
    cases hE with
    | nil => simp only [Instr.findNow]; simp only [Instr.findAsking, Sem.run_pure] at h1; exact h1
    | cons => simp only [Instr.findNow, Instr.sameNow]; exact h1
  · cases hgo

theorem getObj_map {r : Nat} {es : Array MapEntry} {ck : Nat} (h : w.heap[r]? = some (.map es ck)) : (getObj r).run P w = .ok (.map es ck) w := by
  simp [getObj, Sem.run, h]

theorem EntR.isEmpty {es es' : List MapEntry} (h : EntR Γ w es es') : es'.isEmpty = es.isEmpty := by cases h <;> rfl

theorem evLookup_good (hR : Rh Γ H w) {t : TypeId} {x k x' k' : Value} {ok : Bool} {res : OpRes} (h : evLookup P H t x k ok = some res) (hx : VR Γ w x x') (hk : VR Γ w k k') :
    Good Γ H w ((asNext (Instr.lookup t x' k' ok)).run P w) res := by
  unfold evLookup at h
  split at h
  · rename_i kt e r hm
    have hu := mapTy_spec hm
    split at h
    · rename_i es ck hb
      split at h
      · rename_i hgo
        obtain ⟨hd, rfl⟩ := hx.mapE
        rw [hk.eq_of_free (keyGo_free hgo)]
        obtain ⟨es', ho, hE⟩ := hR.obj r _ hb
        have hem : es'.isEmpty = es.isEmpty := by rw [← hE.isEmpty]; simp
        split at h
        · rename_i i v hf
          cases h
          obtain ⟨r', h1, h2⟩ := findKey_run hgo hE hf
          match r', h2 with
          | some (i', v'), ⟨_, hv⟩ =>
            refine good_same hR (hv.withOk ok true) (run_asNext ?_)
            simp only [Instr.lookup, Sem.run_bind, run_underlying hu, Result.andThen_ok, getObj_map ho, hem, keyGo_check hgo, h1, Sem.run_pure]
        · rename_i hf
          split at h
          · rename_i z hz
            cases h
            obtain ⟨r', h1, h2⟩ := findKey_run hgo hE hf
            match r', h2 with
            | none, _ =>
              refine good_same hR ((VR.of_free (zeroOf_free hz)).withOk ok false) (run_asNext ?_)
              simp only [Instr.lookup, Sem.run_bind, run_underlying hu, Result.andThen_ok, getObj_map ho, hem, keyGo_check hgo, h1, Sem.run_pure, run_zeroValue' hz]
          · cases h
        · cases h
      · cases h
    · cases h
  · rename_i kt e hm
    have hu := mapTy_spec hm
    split at h
    · rename_i hgo
      split at h
      · rename_i z hz
        cases h
        rw [hx.mnilE, hk.eq_of_free (keyGo_free hgo)]
        obtain ⟨r', h1, h2⟩ := findKey_run (Γ := Γ) (w := w) hgo .nil (r := none) rfl
        match r', h2 with
        | none, _ =>
          refine good_same hR ((VR.of_free (zeroOf_free hz)).withOk ok false) (run_asNext ?_)
          have hgo' := keyGo_check (w := w) hgo
          simp only [Instr.lookup, Sem.run_bind, run_underlying hu, Result.andThen_ok, Sem.run_pure]
          simp [hgo', h1, run_zeroValue' hz]
      · cases h
    · cases h
  · cases h

theorem EntR.set {es es' : List MapEntry} (h : EntR Γ w es es') {k v v' : Value} (hk : VR Γ w k k) (hf : free k = true) (hv : VR Γ w v v') (i : Nat) :
    EntR Γ w (setE k v es i) (es'.modify i fun e => { e with key := k, val := v' }) := by
  induction h generalizing i with
  | nil => simp [setE]; exact .nil
  | cons hk' hf' hv' hb t ih =>
    cases i with
    | zero => simp only [setE, List.modify_zero_cons]; exact .cons hk hf hv hb t
    | succ i => simp only [setE, List.modify_succ_cons]; exact .cons hk' hf' hv' hb (ih i)

theorem EntR.snoc {es es' : List MapEntry} (h : EntR Γ w es es') {e e' : MapEntry} (hk : VR Γ w e.key e'.key) (hf : free e.key = true) (hv : VR Γ w e.val e'.val) (hb : e'.born = e.born) : EntR Γ w (es ++ [e]) (es' ++ [e']) := by
  induction h with
  | nil => exact .cons hk hf hv hb .nil
  | cons a b c d _ ih => exact .cons a b c d ih

theorem EntR.get {es es' : List MapEntry} (h : EntR Γ w es es') {i : Nat} {e : MapEntry} (hi : es[i]? = some e) : ∃ e', es'[i]? = some e' ∧ e'.key = e.key := by
  induction h generalizing i with
  | nil => simp at hi
  | cons hk hf _ _ _ ih =>
    cases i with
    | zero => simp at hi; subst hi; exact ⟨_, by simp, hk.eq_of_free hf⟩
    | succ i => simp at hi; obtain ⟨e', h1, h2⟩ := ih hi; exact ⟨e', by simpa using h1, h2⟩

theorem evMapUpd_good (hR : Rh Γ H w) {t : TypeId} {m k v m' k' v' : Value} {res : OpRes} (h : evMapUpd P H t m k v = some res) (hm' : VR Γ w m m') (hk : VR Γ w k k') (hv : VR Γ w v v') :
    Good Γ H w ((do Instr.mapUpdate t m' k' v'; pure .skip : Sem Next).run P w) res := by
  unfold evMapUpd at h
  split at h
  · rename_i kt e r hm
    have hu := mapTy_spec hm
    split at h
    · cases h
    · rename_i hro
      split at h
      · rename_i es ck hb
        split at h
        · rename_i hgo
          obtain ⟨hd, rfl⟩ := hm'.mapE
          have hfk := keyGo_free hgo
          rw [hk.eq_of_free hfk]
          have hkk : VR Γ w k k := .of_free hfk
          obtain ⟨es', ho, hE⟩ := hR.obj r _ hb
          have turn : ∀ (es1 : List MapEntry) (es1' : Array MapEntry) (ck1 : Nat), EntR Γ w es1 es1'.toList →
              Rh Γ (H.put r (.map es1 ck1)) (lay w (Γ.φ r).1 (.map es1' ck1)) ∧ Ext Γ H w Γ (H.put r (.map es1 ck1)) (lay w (Γ.φ r).1 (.map es1' ck1)) := by
            intro es1 es1' ck1 hE1
            have hs : Same w (lay w (Γ.φ r).1 (.map es1' ck1)) := lay_same' ho (by simp)
            exact hR.turn _ hb (by omega) (by simp) rfl rfl rfl hs (fun x hx => lay_heap_other hx) ⟨es1', lay_heap_same ho, hE1.mono (.refl Γ) hs⟩
          have hset : ∀ o, (setObj (Γ.φ r).1 o).run P w = .ok () (lay w (Γ.φ r).1 o) := by
            intro o; simp [setObj, Sem.run, ho, lay]
          split at h
          · rename_i i v0 hf
            split at h
            · rename_i e0 he0
              split at h
              · rename_i hsame
                cases h
                obtain ⟨r', h1, h2⟩ := findKey_run hgo hE hf
                match r', h2 with
                | some (i', v0'), ⟨hi, _⟩ =>
                  subst hi
                  obtain ⟨e0', he0', hkey⟩ := hE.get he0
                  have he0'' : es'[i]? = some e0' := by simpa using he0'
                  obtain ⟨h3, h4⟩ := turn (setE k v es i) (es'.modify i fun e => { e with key := k, val := v' }) ck (by simpa using hE.set hkk hfk hv i)
                  refine ⟨_, _, ?_, h3, h4⟩
                  simp only [Instr.mapUpdate, Sem.run_bind, run_underlying hu, Result.andThen_ok, getObj_map ho, keyGo_check hgo, h1, he0'', Option.map_some, Option.getD_some, hkey, Instr.keyThatStays, hsame, if_true,
                    Sem.run_pure, hset]
              · cases h
            · cases h
          · rename_i hf
            cases h
            obtain ⟨r', h1, h2⟩ := findKey_run hgo hE hf
            match r', h2 with
            | none, _ =>
              obtain ⟨h3, h4⟩ := turn (es ++ [{ key := k, val := v, born := ck }]) (es'.push { key := k, val := v', born := ck }) (ck + 1) (by simpa using hE.snoc (e := { key := k, val := v, born := ck }) (e' := { key := k, val := v', born := ck }) hkk hfk hv rfl)
              refine ⟨_, _, ?_, h3, h4⟩
              simp only [Instr.mapUpdate, Sem.run_bind, run_underlying hu, Result.andThen_ok, getObj_map ho, keyGo_check hgo, h1, hset, Sem.run_pure]
          · cases h
        · cases h
      · cases h
  · cases h

end Go.Iv
