/- Operations that leave the heap as it is, or lay one new block (the second part). -/
import Derived.Test.YtoiiimbhfdnomaaDoorIvPure
namespace Go.Iv
open Go

variable {P : Program} {H H' : IH} {res : OpRes}

theorem evConvert_keep {src dst : TypeId} (h1 : ∀ e, ¬ (P.underlying src = some .string ∧ P.underlying dst = some (.slice e))) (h2 : ∀ e e', ¬ (P.underlying src = some (.slice e) ∧ P.underlying dst = some (.slice e'))) (x : Value) :
    KeepH fun H => evConvert P H src dst x := by
  intro H v H1 h
  simp only [evConvert] at h
  split at h
  · split at h
    · cases h; rfl
    · cases h
  · split at h
    · cases h; rfl
    · cases h
  · split at h
    · cases h; rfl
    · cases h
  · rename_i hs hd; exact absurd ⟨hs, hd⟩ (h1 _)
  · rename_i hs hd; exact absurd ⟨hs, hd⟩ (h2 _ _)
  · exact evToString_keep _ _ H v H1 h
  · exact evToUnsafe_keep _ _ H v H1 h
  · exact evFromUnsafe_keep _ _ H v H1 h
  · cases h

theorem read_keep {sf : Self} {ρ : Operand → Value} {o : Oper} (hk : kindOf P o = .read) : KeepH fun H => evOp P sf ρ H o := by
  intro H v H1 h
  simp only at h
  cases ho : o.op with
  | load t a => simp only [evOp, ho] at h; exact evLoad_keep _ _ H v H1 h
  | lookup t x k ok => simp only [evOp, ho] at h; exact evLookup_keep _ _ _ _ H v H1 h
  | binOp op t x y yt => simp only [evOp, ho] at h; exact evBin_keep _ _ _ _ _ _ H v H1 h
  | convert src dst x =>
    simp only [evOp, ho] at h
    refine evConvert_keep (fun e he => ?_) (fun e e' he => ?_) _ H v H1 h
    · simp only [kindOf, ho, he.1, he.2] at hk; cases hk
    · simp only [kindOf, ho, he.1, he.2] at hk; cases hk
  | call c =>
    obtain ⟨callee, args, ats⟩ := c
    cases callee with
    | builtin b =>
      simp only [evOp, ho, evCallOp] at h
      unfold evBuiltin at h
      split at h
      · simp [kindOf, ho] at hk
      · split at h
        · unfold valOf at h; split at h
          · cases h; rfl
          · cases h
        · cases h
      · split at h
        · split at h
          · split at h
            · cases h
            · cases h; rfl
          · cases h
        · cases h
      · simp [kindOf, ho] at hk
      · split at h
        · exact evPlainRun_keep _ H v H1 h
        · cases h
      · split at h
        · exact evPlainRun_keep _ H v H1 h
        · cases h
      · cases h; rfl
      · split at h
        · cases h
        · cases h; rfl
      · simp [kindOf, ho] at hk
      · cases h
    | value f => simp [kindOf, ho] at hk
    | invoke r n => simp [kindOf, ho] at hk
  | _ => simp [kindOf, ho] at hk

/-- What is no link of the chain enters no function, and defers none. -/
theorem plain_of_kind {o : Oper} (hk : kindOf P o ≠ .chain) : plainOp o = true ∧ ∀ c, o.op ≠ .defer c := by
  cases ho : o.op with
  | call c =>
    obtain ⟨callee, args, ats⟩ := c
    cases callee with
    | builtin b => exact ⟨by simp [plainOp, ho], fun c e => by cases e⟩
    | value f => exact absurd (by simp [kindOf, ho]) hk
    | invoke r n => exact absurd (by simp [kindOf, ho]) hk
  | defer c => exact absurd (by simp [kindOf, ho]) hk
  | _ => exact ⟨by simp [plainOp, ho], fun c e => by cases e⟩

/-! ### What lays one new block -/
inductive NewV : (Nat → Value) → Prop
  | ptr : NewV ptrTo
  | slice (l c : Nat) : NewV fun n => .slice (some ⟨n, 0, none⟩) l c
  | map : NewV fun n => .map (some n)

/-- It lays one block, whatever the heap. -/
def FreshH (f : IH → Option OpRes) : Prop := ∀ H v H1, f H = some (.val v H1) → ∃ vf ob, NewV vf ∧ ∀ H2, f H2 = some (.val (vf H2.n) (H2.new ob))

theorem evToBytes_fresh (e : TypeId) (s : ByteArray) : FreshH fun H => evToBytes P H e s := by
  intro H v H1 h
  simp only at h
  unfold evToBytes at h
  split at h
  · rename_i hu
    exact ⟨_, .cells ((bl s).map fun c => .int .u8 c.toNat) e 0 false true, .slice s.size (unk + 1), fun H2 => by simp only [evToBytes, hu]⟩
  · cases h

theorem evAlloc_fresh (e : TypeId) : FreshH fun H => evAlloc P H e := by
  intro H v H1 h
  simp only at h
  unfold evAlloc at h
  split at h
  · rename_i z hz
    exact ⟨_, .cells z.cells.toList e 0 true false, .ptr, fun H2 => by simp only [evAlloc, newCells, hz]⟩
  · cases h

theorem evBox_fresh (e : TypeId) (v : Value) : FreshH fun H => evBox H e v := by
  intro H v1 H1 h
  simp only at h
  unfold evBox at h
  split at h
  · rename_i hz
    exact ⟨_, .cells v.cells.toList e 0 true false, .ptr, fun H2 => by simp only [evBox, newCells, hz, if_true]⟩
  · cases h

theorem evBuildSlice_fresh (t : TypeId) (len : Nat) (ps : List (Nat × Value)) : FreshH fun H => evBuildSlice P H t len ps := by
  intro H v H1 h
  simp only at h
  unfold evBuildSlice at h
  split at h
  · rename_i e i he
    split at h
    · rename_i hc
      split at h
      · rename_i z hz
        split at h
        · rename_i hs
          split at h
          · rename_i cells hf
            exact ⟨_, .cells cells.toList e 0 true false, .slice len len, fun H2 => by simp only [evBuildSlice, newCells, he, hc, if_true, hz, hs, hf]⟩
          · cases h
        · cases h
      · cases h
    · cases h
  · cases h

theorem evMakeSlice_fresh (t : TypeId) (l c : Value) : FreshH fun H => evMakeSlice P H t l c := by
  intro H v H1 h
  simp only at h
  unfold evMakeSlice at h
  split at h
  · rename_i e i l c he
    split at h
    · rename_i hc
      split at h
      · rename_i z hz
        split at h
        · rename_i hs
          exact ⟨_, .cells (reps z.cells.toList c.toNat) e 0 true false, .slice l.toNat c.toNat, fun H2 => by simp only [evMakeSlice, newCells, he, hc, if_true, hz, hs]⟩
        · cases h
      · cases h
    · cases h
  · cases h

theorem evMakeMap_fresh (t : TypeId) (r : Option Value) : FreshH fun H => evMakeMap P H t r := by
  intro H v H1 h
  simp only at h
  unfold evMakeMap at h
  split at h
  · exact ⟨_, .map [] 0, .map, fun H2 => rfl⟩
  · split at h
    · rename_i hu
      exact ⟨_, .map [] 0, .map, fun H2 => by simp only [evMakeMap, hu]⟩
    · cases h

theorem fresh_new {sf : Self} {ρ : Operand → Value} {o : Oper} (hk : kindOf P o = .fresh) : FreshH fun H => evOp P sf ρ H o := by
  have key : ∀ (f : IH → Option OpRes), (∀ H, evOp P sf ρ H o = f H) → FreshH f → FreshH fun H => evOp P sf ρ H o := by
    intro f e hf H v H1 h
    simp only [e] at h ⊢
    exact hf H v H1 h
  cases ho : o.op with
  | alloc e => exact key _ (fun _ => by simp only [evOp, ho]) (evAlloc_fresh (P := P) e)
  | box e x => exact key _ (fun _ => by simp only [evOp, ho]) (evBox_fresh e (ρ x))
  | buildSlice t len ps => exact key _ (fun _ => by simp only [evOp, ho]) (evBuildSlice_fresh (P := P) t len (ps.toList.map fun p => (p.1, ρ p.2)))
  | makeSlice t l c => exact key _ (fun _ => by simp only [evOp, ho]) (evMakeSlice_fresh (P := P) t (ρ l) (ρ c))
  | makeMap t r => exact key _ (fun _ => by simp only [evOp, ho]) (evMakeMap_fresh (P := P) t (r.map ρ))
  | convert src dst x =>
    simp only [kindOf, ho] at hk
    split at hk
    · rename_i e hs hd
      intro H v H1 h
      simp only [evOp, ho, evConvert, hs, hd] at h ⊢
      split at h
      · rename_i s hx
        obtain ⟨vf, ob, h1, h2⟩ := evToBytes_fresh (P := P) e s H v H1 h
        exact ⟨vf, ob, h1, h2⟩
      · cases h
    · cases hk
    · cases hk
  | call c =>
    obtain ⟨callee, args, ats⟩ := c
    cases callee with
    | builtin b => cases b <;> simp [kindOf, ho] at hk
    | value f => simp [kindOf, ho] at hk
    | invoke r n => simp [kindOf, ho] at hk
  | _ => simp [kindOf, ho] at hk

end Go.Iv
