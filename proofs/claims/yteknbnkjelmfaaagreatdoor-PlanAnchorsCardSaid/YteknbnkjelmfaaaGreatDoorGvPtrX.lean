/- Functions that are handed pointers: the objects behind them are handed over, and handed back; what is to be shown of each, and that it may be used. -/
import Derived.Test.YteknbnkjelmfaaaGreatDoorGvLoop
set_option linter.unusedSimpArgs false
set_option linter.unusedVariables false
namespace Go.Gv
open Go Go.Iv
noncomputable section
def sgOf : List (Nat × Nat) → Nat → Nat
 | [], k => k
 | (a, b) :: r, k => bif Nat.beq a k then b else sgOf r k
def sg (al : List (Nat × Nat)) (k : Nat) : Nat := bif Nat.blt k glN then k else sgOf al k
def renV (σ : Nat → Nat) : TV → TV
 | .ptr a o => .ptr (σ a) o
 | .all a => .all (σ a)
 | .mp a => .mp (σ a)
 | v => v
def idK (kn : Nat → Bool) : TV → Bool
 | .ptr a _ => kn a
 | .all a => kn a
 | .mp a => kn a
 | .raw _ | .undef => true
 | _ => false
def T1.getS (σ : Nat → Nat) (kn : Nat → Bool) (H : GH) (n : Nat) (us : Us) (t : T1) (v : TV) : Option (t.ty × Us) :=
 match t with
 | .fix t => bif idK kn t && sameFix (renV σ t) v then some ((), us) else none
 | t => t.get H 0 n us v
def getLS (σ : Nat → Nat) (kn : Nat → Bool) (H : GH) (n : Nat) : (l : List T1) → Us → List TV → Option (tys l × Us)
 | [], us, [] => some ((), us)
 | t :: r, us, v :: vs => match t.getS σ kn H n us v with
  | some (x, us) => match getLS σ kn H n r us vs with
   | some (y, us) => some ((x, y), us)
   | none => none
  | none => none
 | _, _, _ => none
def OT.getS (σ : Nat → Nat) (kn : Nat → Bool) (H : GH) (n : Nat) (us : Us) (t : OT) (o : GObj) : Option (t.ty × Us) :=
 match t with
 | .cells et l w => match o with
  | .cells et' cs w' => bif Nat.beq et et' && (bif w then w' else !w') then getLS σ kn H n l us cs else none
  | _ => none
 | t => t.get H 0 n us o
def getObjsS (σ : Nat → Nat) (kn : Nat → Bool) (H : GH) (n : Nat) : (l : List (Nat × OT)) → Us → Option (objTy l × Us)
 | [], us => some ((), us)
 | (k, t) :: r, us => bif kn k then match H.get (σ k) with
  | some o => match t.getS σ kn H n us o with
   | some (x, us) => match getObjsS σ kn H n r us with
    | some (y, us) => some ((x, y), us)
    | none => none
   | none => none
  | none => none
  else none
def bindA (a b : Nat) (al : List (Nat × Nat)) : List (Nat × Nat) := bif Nat.ble glN a && !(al.any fun p => Nat.beq p.1 a) then al ++ [(a, b)] else al
def bindV : TV → TV → List (Nat × Nat) → List (Nat × Nat)
 | .ptr a _, .ptr b _, al => bindA a b al
 | .all a, .all b, al => bindA a b al
 | .mp a, .mp b, al => bindA a b al
 | _, _, al => al
def bindL : List T1 → List TV → List (Nat × Nat) → List (Nat × Nat)
 | .fix t :: r, v :: vs, al => bindL r vs (bindV t v al)
 | _ :: r, _ :: vs, al => bindL r vs al
 | _, _, al => al
def bindO (H : GH) : List (Nat × OT) → List (Nat × Nat) → List (Nat × Nat)
 | [], al => al
 | (k, .cells _ l _) :: r, al => match H.get (sgOf al k) with
  | some (.cells _ cs _) => bindO H r (bindL l cs al)
  | _ => bindO H r al
 | _ :: r, al => bindO H r al
def bindVs : List TV → List TV → List (Nat × Nat) → List (Nat × Nat)
 | t :: r, v :: vs, al => bindVs r vs (bindV t v al)
 | _, _, al => al
structure PFn where
 f : FuncId
 ar : List TV
 pa : List (Bool × Sh)
 re : List (Bool × Sh)
 n0 : Nat
 os : List (Nat × OT)
 n : Nat
 os2 : List (Nat × OT)
 n2 : Nat
 D : Nat
 F : Nat → argsTy pa × objTy os → Option (argsTy re × objTy os2)
def PFn.T (it : PFn) : Tm := ⟨[], it.os, it.n0, it.n, 0⟩
def PFn.T2 (it : PFn) : Tm := ⟨[], it.os2, it.n0, it.n2, 0⟩
def PFn.kn (it : PFn) (k : Nat) : Bool := Nat.blt k glN || it.os.any fun p => Nat.beq p.1 k
def goodV (kn : Nat → Bool) (n0 n2 : Nat) : TV → Bool
 | .int _ _ | .byte _ | .bool _ | .str _ | .lst _ _ _ _ | .raw _ | .undef => true
 | .all c => kn c || (Nat.ble n0 c && Nat.blt c n2)
 | .ptr c _ => kn c
 | .mp c => kn c
 | _ => false
def goodO (kn : Nat → Bool) (n0 n2 : Nat) : GObj → Bool
 | .cells _ cs _ => cs.all (goodV kn n0 n2)
 | .arr .. | .iter .. | .map .. => true
 | .nest _ _ _ _ _ _ _ ho => ho.isNone
 | .loop .. => false
def renO (ρ : Nat → Nat) : GObj → GObj
 | .cells et cs w => .cells et (cs.map (renV ρ)) w
 | o => o
def layK (kn : Nat → Bool) (n0 n2 ck : Nat) (ρ : Nat → Nat) (Hc : GH) : List Nat → Tr (Nat × GObj) → Tr (Nat × GObj)
 | [], t => t
 | k :: r, t => match Hc.get k with
  | some o => bif (kn k || (Nat.ble n0 k && Nat.blt k n2)) && goodO kn n0 n2 o then Tr.putQ (some (ck, renO ρ o)) (Nat.succ (ρ k)) (layK kn n0 n2 ck ρ Hc r t) (ρ k) else layK kn n0 n2 ck ρ Hc r t
  | none => layK kn n0 n2 ck ρ Hc r t
def upto (a : Nat) : Nat → List Nat
 | 0 => []
 | k + 1 => a :: upto (a + 1) k
def usIds : Us → List Nat
 | [] => []
 | (_, some (id, _), _) :: r => id :: usIds r
 | (_, none, _) :: r => usIds r
def rho (σ : Nat → Nat) (n0 m k : Nat) : Nat := bif Nat.blt k n0 then σ k else m + (k - n0)
def PFn.backH (it : PFn) (σ : Nat → Nat) (us : Us) (H : GH) (y : objTy it.os2) : GH :=
 ⟨layK it.kn it.n0 it.n2 H.ck (rho σ it.n0 H.n) (it.T2.H ((), y)) (it.os2.map (·.1) ++ upto it.n0 (it.n2 - it.n0)) (delL (it.os.map (fun p => σ p.1) ++ usIds us) H).t, H.n + (it.n2 - it.n0), Nat.succ H.ck⟩
def apartS (σ : Nat → Nat) (os : List (Nat × OT)) : Us → Bool
 | [] => true
 | (_, some (id, _), _) :: r => os.all (fun p => !Nat.beq (σ p.1) id) && apartS σ os r
 | (_, none, _) :: r => apartS σ os r
def distS (σ : Nat → Nat) : List (Nat × OT) → Bool
 | [] => true
 | p :: r => r.all (fun q => !Nat.beq (σ p.1) (σ q.1)) && distS σ r
def fixS (σ : Nat → Nat) (kn : Nat → Bool) : List TV → List TV → Bool
 | [], [] => true
 | t :: r, v :: vs => idK kn t && sameFix (renV σ t) v && fixS σ kn r vs
 | _, _ => false
def PFn.wf (it : PFn) (σ : Nat → Nat) (us : Us) : Bool :=
 it.os.all (fun p => Nat.ble glN p.1 && Nat.blt p.1 it.n0) && distS σ it.os && apartS σ it.os us && us.all (fun p => Nat.ble it.n0 p.1) && Nat.ble it.n0 it.n && Nat.ble glN it.n0 && Nat.ble it.n0 it.n2
def PFn.hook (β : Type) (it : PFn) : Nat → List TV → GH → (TV → GH → Option β) → Option β := fun N args H K =>
 bif Nat.ble it.D N then
  match decA it.pa (args.drop it.ar.length) H with
  | some (x, H) =>
   let al := bindO H it.os (bindVs it.ar args [])
   bif fixS (sg al) it.kn it.ar (args.take it.ar.length) then
    match getObjsS (sg al) it.kn H it.n it.os [] with
    | some (s, us) => bif it.wf (sg al) us then
      (it.F (N - it.D) (x, s)).bind fun y => K (resTV (encA it.re y.1)) (it.backH (sg al) us H y.2)
     else none
    | none => none
   else none
  | none => none
 else none
def decRH (l : List (Bool × Sh)) (v : TV) (H : GH) : Option (argsTy l × GH) :=
 match v with
 | .tup vs => bif Nat.beq l.length 1 then none else decA l vs H
 | v => decA l [v] H
def decP (it : PFn) (v : TV) (H : GH) : Option (argsTy it.re × objTy it.os2) :=
 match decRH it.re v H with
 | some (y, H) => match it.T2.take ⟨.e, .e⟩ H with
  | some s => some (y, s.2)
  | none => none
 | none => none
end
section
variable {P : Program} {hint : Hint} {sh : ShT} {O : Nat → Prop} {Γ Γ1 Γ' : Gam} {Pu Pu1 : Nat → Prop} {H H1 : GH} {I I1 : IH} {β : Type} {r : β}
def LowS (σ : Nat → Nat) (kn : Nat → Bool) (Γ Γ' : Gam) : Prop := ∀ k, kn k = true → Γ' k = Γ (σ k)
theorem idK_ok {σ : Nat → Nat} {kn : Nat → Bool} (hc : LowS σ kn Γ Γ') {t : TV} {v : Value} (hi : idK kn t = true) (h : GR Γ Pu I (renV σ t) v) : GR Γ' Pu I t v := by
 cases t with
 | ptr a o => cases h with | ptr x y => exact .ptr ((hc a hi).trans x) y
 | all a => cases h with | all x y => exact .all ((hc a hi).trans x) y
 | mp a => cases h with | mp x y => exact .mp ((hc a hi).trans x) y
 | raw w => cases h; exact .raw _
 | undef => exact .undef _
 | _ => cases hi
structure GotS (P : Program) (hint : Hint) (σ : Nat → Nat) (kn : Nat → Bool) (n : Nat) (Γ : Gam) (Pu : Nat → Prop) (I : IH) (H : GH) (us us' : Us) (q : Gam → Prop) (N : New) : Prop where
 sub : ∀ p, p ∈ us → p ∈ us'
 ok : UsOK 0 n us'
 good : ∀ Γ', LowS σ kn Γ Γ' → Con 0 us' Γ Γ' → q Γ' ∧ NewOK P hint Γ Γ' Pu I us' H N
theorem Got.s {σ : Nat → Nat} {kn : Nat → Bool} {n : Nat} {us us' : Us} {q : Gam → Prop} {N : New} (h : Got P hint 0 n Γ Pu I H us us' q N) : GotS P hint σ kn n Γ Pu I H us us' q N :=
 ⟨h.sub, h.ok, fun Γ' _ hc => h.good Γ' hc⟩
theorem GotS.trans {σ : Nat → Nat} {kn : Nat → Bool} {n : Nat} {us us1 us2 : Us} {p q : Gam → Prop} {A B : New} (h : GotS P hint σ kn n Γ Pu I H us us1 p A) (k : GotS P hint σ kn n Γ Pu I H us1 us2 q B) : GotS P hint σ kn n Γ Pu I H us us2 (fun Γ' => p Γ' ∧ q Γ') (A ++ B) :=
 ⟨fun x hx => k.sub x (h.sub x hx), k.ok, fun Γ' hl hc => by
  obtain ⟨a, b⟩ := h.good Γ' hl (hc.sub k.sub)
  obtain ⟨c, d⟩ := k.good Γ' hl hc
  refine ⟨⟨a, c⟩, NewOK.app (fun c o hm => ?_) d⟩
  obtain ⟨l, s, z, x1, x2, x3, x4, x5⟩ := b c o hm
  exact ⟨l, s, z, x1, x2, x3, k.sub _ x4, x5⟩⟩
theorem GotS.imp {σ : Nat → Nat} {kn : Nat → Bool} {n : Nat} {us us1 : Us} {p q : Gam → Prop} {A : New} (h : GotS P hint σ kn n Γ Pu I H us us1 p A) (hi : ∀ Γ', p Γ' → q Γ') : GotS P hint σ kn n Γ Pu I H us us1 q A :=
 ⟨h.sub, h.ok, fun Γ' hl hc => ⟨hi Γ' (h.good Γ' hl hc).1, (h.good Γ' hl hc).2⟩⟩
theorem GotS.none {σ : Nat → Nat} {kn : Nat → Bool} {n : Nat} {us : Us} {p : Gam → Prop} (hu : UsOK 0 n us) (hp : ∀ Γ', p Γ') : GotS P hint σ kn n Γ Pu I H us us p [] :=
 ⟨fun _ h => h, hu, fun Γ' _ _ => ⟨hp Γ', NewOK.nil⟩⟩
theorem T1.getS_ok {σ : Nat → Nat} {kn : Nat → Bool} (hs : Sim P hint sh Γ Pu H I) {n : Nat} {us us' : Us} (hu : UsOK 0 n us) {t : T1} {x : t.ty} {v : TV} {v' : Value} (h : t.getS σ kn H n us v = some (x, us')) (hr : GR Γ Pu I v v') :
  GotS P hint σ kn n Γ Pu I H us us' (fun Γ' => GR Γ' Pu I (t.put x).1 v') (t.put x).2 := by
 have other : t.get H 0 n us v = some (x, us') → GotS P hint σ kn n Γ Pu I H us us' (fun Γ' => GR Γ' Pu I (t.put x).1 v') (t.put x).2 := fun h => (T1.get_ok hs hu h hr).s
 cases t with
 | fix t =>
  simp only [T1.getS] at h
  replace h := bif_some h; obtain ⟨hb, h⟩ := h
  replace hb := Go.Gv.and_true hb
  cases h
  exact ⟨fun _ h => h, hu, fun Γ' hl _ => ⟨idK_ok hl hb.1 (sameFix_ok hb.2 hr), NewOK.nil⟩⟩
 | _ => exact other h
theorem getLS_ok {σ : Nat → Nat} {kn : Nat → Bool} (hs : Sim P hint sh Γ Pu H I) {n : Nat} : ∀ {l : List T1} {us us' : Us} {x : tys l} {vs : List TV} {vs' : List Value}, UsOK 0 n us → getLS σ kn H n l us vs = some (x, us') → GRs Γ Pu I vs vs' →
  GotS P hint σ kn n Γ Pu I H us us' (fun Γ' => GRs Γ' Pu I (putL l x).1 vs') (putL l x).2 := by
 intro l
 induction l with
 | nil =>
  intro us us' x vs vs' hu h hr
  cases vs with
  | nil => cases h; cases hr; exact GotS.none hu fun _ => .nil
  | cons => cases h
 | cons t r ih =>
  intro us us' x vs vs' hu h hr
  cases hr with
  | nil => cases h
  | cons a b =>
   simp only [getLS] at h
   split at h
   ·rename_i y us1 h1
    split at h
    ·rename_i z us2 h2
     cases h
     have g1 := T1.getS_ok hs hu h1 a
     have g2 := ih g1.ok h2 b
     exact (g1.trans g2).imp fun Γ' hh => .cons hh.1 hh.2
    ·cases h
   ·cases h
theorem OT.getS_ok {σ : Nat → Nat} {kn : Nat → Bool} (hs : Sim P hint sh Γ Pu H I) {n : Nat} {us us' : Us} (hu : UsOK 0 n us) {t : OT} {x : t.ty} {o : GObj} {l : Loc} (hok : OTok P hint t) (h : t.getS σ kn H n us o = some (x, us')) (ho : OR P hint Γ Pu I l o) :
  GotS P hint σ kn n Γ Pu I H us us' (fun Γ' => OR P hint Γ' Pu I l (t.put x).1) (t.put x).2 ∧ (t.put x).1.mut = o.mut ∧ ∀ b, (t.put x).1.has I l b → o.has I l b := by
 have other : t.get H 0 n us o = some (x, us') → GotS P hint σ kn n Γ Pu I H us us' (fun Γ' => OR P hint Γ' Pu I l (t.put x).1) (t.put x).2 ∧ (t.put x).1.mut = o.mut ∧ ∀ b, (t.put x).1.has I l b → o.has I l b := fun h => by
  obtain ⟨a, b, c⟩ := OT.get_ok hs hu hok h ho
  exact ⟨a.s, b, c⟩
 cases t with
 | cells et tl w =>
  cases o with
  | cells et' cs w' =>
   simp only [OT.getS] at h
   replace h := bif_some h; obtain ⟨hb, h⟩ := h
   replace hb := Go.Gv.and_true hb
   have e1 := beq_true hb.1
   have e2 := bif_beq hb.2
   subst e1 e2
   obtain ⟨b, vs, fz, ex, sd, hp, hg, hr, hw, hpu⟩ := ho
   exact ⟨(getLS_ok hs hu h hr).imp fun Γ' hh => ⟨b, vs, fz, ex, sd, hp, hg, hh, hw, hpu⟩, rfl, fun _ h => False.elim h⟩
  | _ => cases h
 | _ => exact other h
theorem getObjsS_ok {σ : Nat → Nat} {kn : Nat → Bool} (hs : Sim P hint sh Γ Pu H I) {n : Nat} : ∀ {l : List (Nat × OT)} {us us' : Us} {x : objTy l}, (∀ p ∈ l, OTok P hint p.2) → UsOK 0 n us → getObjsS σ kn H n l us = some (x, us') →
  GotS P hint σ kn n Γ Pu I H us us' (fun Γ' => ∀ k o, (k, o) ∈ (putObjs l x).1 → kn k = true ∧ (∃ p ∈ l, p.1 = k) ∧ ∃ lo o', Γ (σ k) = some lo ∧ OR P hint Γ' Pu I lo o ∧ H.get (σ k) = some o' ∧ o.mut = o'.mut ∧ ∀ b, o.has I lo b → o'.has I lo b) (putObjs l x).2 := by
 intro l
 induction l with
 | nil =>
  intro us us' x _ hu h
  unfold getObjsS at h
  cases h
  exact GotS.none hu fun _ id o hm => by cases hm
 | cons p r ih =>
  intro us us' x hok hu h
  obtain ⟨k, t⟩ := p
  simp only [getObjsS] at h
  replace h := bif_some h; obtain ⟨hb, h⟩ := h
  split at h
  ·rename_i o hg
   split at h
   ·rename_i y us1 h1
    split at h
    ·rename_i z us2 h2
     cases h
     obtain ⟨lo, hlo, ho⟩ := hs.obj _ o hg
     obtain ⟨g1, hm, hhas⟩ := OT.getS_ok hs hu (hok _ List.mem_cons_self) h1 ho
     have g2 := ih (fun p hp => hok p (List.mem_cons_of_mem _ hp)) g1.ok h2
     refine (g1.trans g2).imp fun Γ' hh id' o' hmem => ?_
     rcases List.mem_cons.1 hmem with hq | hmem
     ·cases hq
      exact ⟨hb, ⟨_, List.mem_cons_self, rfl⟩, lo, o, hlo, hh.1, hg, hm, hhas⟩
     ·obtain ⟨a1, ⟨q, hq1, hq2⟩, a3⟩ := hh.2 id' o' hmem
      exact ⟨a1, ⟨q, List.mem_cons_of_mem _ hq1, hq2⟩, a3⟩
    ·cases h
   ·cases h
  ·cases h
noncomputable def gamS (σ : Nat → Nat) (kn : Nat → Bool) (us : Us) (Γ : Gam) : Gam := fun k => bif kn k then Γ (σ k) else
 match us.find? (fun p => Nat.beq p.1 k) with
 | some (_, some (id, off, len), _) => (Γ id).map (Loc.cut off len)
 | some (_, none, z) => some ⟨none, 0, z, 0⟩
 | none => none
theorem apartS_ok {σ : Nat → Nat} {os : List (Nat × OT)} : ∀ {us : Us}, apartS σ os us = true → ∀ c id q z, (c, some (id, q), z) ∈ us → ∀ p ∈ os, σ p.1 ≠ id := by
 intro us
 induction us with
 | nil => intro _ c id w z h; cases h
 | cons q us ih =>
  intro h c id w z hm p hp
  obtain ⟨c', s, z'⟩ := q
  cases s with
  | some id' =>
   obtain ⟨id', w'⟩ := id'
   replace h := Go.Gv.and_true h
   rcases List.mem_cons.1 hm with hq | hm
   ·cases hq
    have := List.all_eq_true.1 h.1 p hp
    intro e
    rw [e, Nat.beq_refl] at this; cases this
   ·exact ih h.2 c id w z hm p hp
  | none =>
   rcases List.mem_cons.1 hm with hq | hm
   ·cases hq
   ·exact ih h c id w z hm p hp
theorem distS_ok {σ : Nat → Nat} : ∀ {os : List (Nat × OT)}, distS σ os = true → ∀ p ∈ os, ∀ q ∈ os, σ p.1 = σ q.1 → p = q := by
 intro os
 induction os with
 | nil => intro _ p hp; cases hp
 | cons a r ih =>
  intro h p hp q hq e
  replace h := Go.Gv.and_true h
  rcases List.mem_cons.1 hp with h1 | h1 <;> rcases List.mem_cons.1 hq with h2 | h2
  ·rw [h1, h2]
  ·have := List.all_eq_true.1 h.1 q h2
   rw [← h1, e, Nat.beq_refl] at this; cases this
  ·have := List.all_eq_true.1 h.1 p h1
   rw [← h2, ← e, Nat.beq_refl] at this; cases this
  ·exact ih h.2 p h1 q h2 e
theorem usIds_mem {c id : Nat} {q : Nat × Nat} {z : Nat} : ∀ {us : Us}, (c, some (id, q), z) ∈ us → id ∈ usIds us := by
 intro us
 induction us with
 | nil => intro h; cases h
 | cons p us ih =>
  intro h
  obtain ⟨c', s, z'⟩ := p
  cases s with
  | some a =>
   obtain ⟨id', w⟩ := a
   unfold usIds
   rcases List.mem_cons.1 h with h | h
   ·cases h; exact List.mem_cons_self
   ·exact List.mem_cons_of_mem _ (ih h)
  | none =>
   unfold usIds
   rcases List.mem_cons.1 h with h | h
   ·cases h
   ·exact ih h
theorem us_same : ∀ {us : Us}, us.Pairwise (fun p q => ∀ a b, p.2.1 = some a → q.2.1 = some b → a.1 ≠ b.1) → ∀ {a b : Nat} {id z w : Nat} {q1 q2 : Nat × Nat}, (a, some (id, q1), z) ∈ us → (b, some (id, q2), w) ∈ us → a = b := by
 intro us
 induction us with
 | nil => intro _ a b id z w q1 q2 h; cases h
 | cons p us ih =>
  intro hpw a b id z w q1 q2 h1 h2
  rw [List.pairwise_cons] at hpw
  rcases List.mem_cons.1 h1 with h1 | h1 <;> rcases List.mem_cons.1 h2 with h2 | h2
  ·rw [← h1] at h2; cases h2; rfl
  ·exact absurd rfl (hpw.1 _ h2 (id, q1) (id, q2) (by rw [← h1]) rfl)
  ·exact absurd rfl (hpw.1 _ h1 (id, q2) (id, q1) (by rw [← h2]) rfl)
  ·exact ih hpw.2 h1 h2
structure WfP (it : PFn) (σ : Nat → Nat) (us : Us) : Prop where
 os : ∀ p ∈ it.os, glN ≤ p.1 ∧ p.1 < it.n0
 dist : distS σ it.os = true
 apart : apartS σ it.os us = true
 us : ∀ p ∈ us, it.n0 ≤ p.1
 n : it.n0 ≤ it.n
 gl : glN ≤ it.n0
 n2 : it.n0 ≤ it.n2
theorem PFn.wf_ok {it : PFn} {σ : Nat → Nat} {us : Us} (h : it.wf σ us = true) : WfP it σ us := by
 unfold PFn.wf at h
 replace h := Go.Gv.and_true h; obtain ⟨h, h7⟩ := h
 replace h := Go.Gv.and_true h; obtain ⟨h, h6⟩ := h
 replace h := Go.Gv.and_true h; obtain ⟨h, h5⟩ := h
 replace h := Go.Gv.and_true h; obtain ⟨h, h4⟩ := h
 replace h := Go.Gv.and_true h; obtain ⟨h, h3⟩ := h
 replace h := Go.Gv.and_true h; obtain ⟨h1, h2⟩ := h
 refine ⟨fun p hp => ?_, h2, h3, fun p hp => ble_true (List.all_eq_true.1 h4 p hp), ble_true h5, ble_true h6, ble_true h7⟩
 have := Go.Gv.and_true (List.all_eq_true.1 h1 p hp)
 exact ⟨ble_true this.1, blt_true this.2⟩
theorem PFn.kn_ok {it : PFn} {k : Nat} (h : it.kn k = true) : k < glN ∨ ∃ p ∈ it.os, p.1 = k := by
 unfold PFn.kn at h
 rw [Bool.or_eq_true] at h
 rcases h with h | h
 ·exact .inl (blt_true h)
 ·obtain ⟨p, hp, h⟩ := List.any_eq_true.1 h
  exact .inr ⟨p, hp, beq_true h⟩
theorem PFn.kn_gl {it : PFn} {k : Nat} (h : k < glN) : it.kn k = true := by
 unfold PFn.kn
 rw [show Nat.blt k glN = true from Nat.ble_eq_true_of_le h]; rfl
theorem sg_gl {al : List (Nat × Nat)} {k : Nat} (h : k < glN) : sg al k = k := by
 unfold sg
 rw [show Nat.blt k glN = true from Nat.ble_eq_true_of_le h]; rfl
theorem PFn.enter (it : PFn) (hT : it.T.ok P hint) (hs : Sim P hint sh Γ Pu H I) {al : List (Nat × Nat)} {s : objTy it.os} {us : Us} (h : getObjsS (sg al) it.kn H it.n it.os [] = some (s, us)) (hw : WfP it (sg al) us) :
  ∃ Γ', Sim P hint sh Γ' Pu (it.T.H ((), s)) I ∧ LowS (sg al) it.kn Γ Γ' ∧
   ∀ b, Own Γ' (it.T.H ((), s)) I b → ∃ id o l, id ∈ it.os.map (fun p => sg al p.1) ++ usIds us ∧ H.get id = some o ∧ o.mut = true ∧ Γ id = some l ∧ At I l o b := by
 have g := getObjsS_ok hs hT (show UsOK 0 it.n [] from UsOK.nil) h
 have hu := g.ok
 have hlow : LowS (sg al) it.kn Γ (gamS (sg al) it.kn us Γ) := fun k hk => by unfold gamS; rw [hk]; rfl
 have hunk : ∀ p ∈ us, it.kn p.1 = false := fun p hp => by
  cases hk : it.kn p.1 with
  | false => rfl
  | true =>
   have h1 := hw.us p hp
   rcases PFn.kn_ok hk with h2 | ⟨q, hq, h2⟩
   ·have := hw.gl; omega
   ·have := (hw.os q hq).2; omega
 have hcon : Con 0 us Γ (gamS (sg al) it.kn us Γ) := ⟨fun id l h0 => absurd h0 (Nat.not_lt_zero _), fun c s z hm => by
  have h1 := hunk _ hm
  have h2 := find_us hu hm
  unfold gamS
  simp only at h1
  rw [h1, h2]
  cases s with
  | none => rfl
  | some q => obtain ⟨id, off, len⟩ := q; rfl⟩
 obtain ⟨r2, q2⟩ := g.good _ hlow hcon
 have all : ∀ id o, (it.T.H ((), s)).get id = some o → (it.kn id = true ∧ ∃ lo o', Γ (sg al id) = some lo ∧ gamS (sg al) it.kn us Γ id = some lo ∧ OR P hint (gamS (sg al) it.kn us Γ) Pu I lo o ∧ H.get (sg al id) = some o' ∧ o.mut = o'.mut ∧ (∀ b, o.has I lo b → o'.has I lo b) ∧ ∃ p ∈ it.os, p.1 = id) ∨
   (∃ l s z, gamS (sg al) it.kn us Γ id = some l ∧ OR P hint (gamS (sg al) it.kn us Γ) Pu I l o ∧ o.mut = true ∧ (id, s, z) ∈ us ∧ (match s with
    | some (id', _) => ∃ o', H.get id' = some o' ∧ o'.mut = true ∧ ∀ l0 b, Γ id' = some l0 → o.has I l b → o'.has I l0 b
    | none => l.pos = none)) := by
  intro id o hg
  unfold GH.get at hg
  split at hg
  ·rename_i s' o' heq
   cases hg
   obtain ⟨_, hm⟩ := trOf_get heq
   rcases List.mem_append.1 hm with hm | hm
   ·cases hm
   ·rcases List.mem_append.1 hm with hm | hm
    ·obtain ⟨a1, a2, lo, o', b1, b2, b3, b4, b5⟩ := r2 id o hm
     exact .inl ⟨a1, lo, o', b1, (hlow id a1).trans b1, b2, b3, b4, b5, a2⟩
    ·exact .inr (q2 id o hm)
  ·cases hg
 have src : ∀ id o l b, (it.T.H ((), s)).get id = some o → o.mut = true → gamS (sg al) it.kn us Γ id = some l → At I l o b → ∃ id0 o0 l0, H.get id0 = some o0 ∧ o0.mut = true ∧ Γ id0 = some l0 ∧ At I l0 o0 b ∧ ((id0 = sg al id ∧ ∃ p ∈ it.os, p.1 = id) ∨ ∃ q z, (id, some (id0, q), z) ∈ us) := by
  intro id o l b hg hm hl hat
  rcases all id o hg with ⟨a1, lo, o', b1, b2, _, b3, b4, b6, b5⟩ | ⟨l', s, z, b1, _, b2, b3, b4⟩
  ·cases hl.symm.trans b2
   exact ⟨sg al id, o', _, b3, b4 ▸ hm, b1, hat.imp (fun h => h) (b6 b), .inl ⟨rfl, b5⟩⟩
  ·cases hl.symm.trans b1
   cases s with
   | none =>
    simp only at b4
    exfalso
    rcases hat with ⟨y, hp⟩ | hh
    ·rw [b4] at hp; cases hp
    ·cases o with
     | nest => obtain ⟨i, _, _, b0, o0, _, _, _, _, _, hp', _⟩ := hh; rw [b4] at hp'; cases hp'
     | _ => cases hh
   | some q =>
    obtain ⟨id', off, len⟩ := q
    obtain ⟨o', c1, c2, c3⟩ := b4
    have := hcon.us _ _ _ b3
    simp only at this
    have h4 := this.symm.trans hl
    cases hg0 : Γ id' with
    | none => rw [hg0] at h4; cases h4
    | some l0 =>
     rw [hg0] at h4
     cases h4
     refine ⟨id', o', l0, c1, c2, hg0, ?_, .inr ⟨_, z, b3⟩⟩
     rcases hat with ⟨y, hp⟩ | hh
     ·simp only [Loc.cut, Option.map_eq_some_iff] at hp
      obtain ⟨p, hp1, hp2⟩ := hp
      cases hp2
      exact .inl ⟨p.2, hp1⟩
     ·exact .inr (c3 l0 b hg0 hh)
 have own1 : ∀ b, Own (gamS (sg al) it.kn us Γ) (it.T.H ((), s)) I b → ∃ id o l, id ∈ it.os.map (fun p => sg al p.1) ++ usIds us ∧ H.get id = some o ∧ o.mut = true ∧ Γ id = some l ∧ At I l o b := by
  rintro b ⟨id, o, l, hg, hm, hl, hp⟩
  obtain ⟨j1, p1, m1, c1, c2, c3, c5, c6⟩ := src id o l b hg hm hl hp
  refine ⟨j1, p1, m1, ?_, c1, c2, c3, c5⟩
  rcases c6 with ⟨rfl, p, hp1, hp2⟩ | ⟨q, z, hm⟩
  ·exact List.mem_append_left _ (List.mem_map.2 ⟨p, hp1, by rw [hp2]⟩)
  ·exact List.mem_append_right _ (usIds_mem hm)
 refine ⟨gamS (sg al) it.kn us Γ, ⟨?_, ?_, ?_, ?_, hs.fresh, hs.pu, hs.ro, Nat.le_trans hw.gl hw.n, ?_, ?_, hs.tab⟩, hlow, own1⟩
 ·intro id o hg
  rcases all id o hg with ⟨_, lo, _, _, b2, b3, _⟩ | ⟨l, _, _, b1, b2, _⟩
  ·exact ⟨lo, b2, b3⟩
  ·exact ⟨l, b1, b2⟩
 ·intro i1 i2 o1 o2 l1 l2 b hg1 hg2 hm1 hm2 hl1 hl2 hp1 hp2
  obtain ⟨j1, p1, m1, c1, c2, c3, c5, c4⟩ := src i1 o1 l1 b hg1 hm1 hl1 hp1
  obtain ⟨j2, p2, m2, d1, d2, d3, d5, d4⟩ := src i2 o2 l2 b hg2 hm2 hl2 hp2
  have hj := hs.inj j1 j2 p1 p2 m1 m2 b c1 d1 c2 d2 c3 d3 c5 d5
  rcases c4 with ⟨e1, p, e2, e3⟩ | ⟨q1, z1, e1⟩ <;> rcases d4 with ⟨f1, q, f2, f3⟩ | ⟨q2, z2, f1⟩
  ·have := distS_ok hw.dist p e2 q f2 (by rw [e3, f3, ← e1, ← f1]; exact hj)
   rw [← e3, ← f3, this]
  ·exact absurd (show sg al p.1 = j2 by rw [e3, ← e1]; exact hj) (apartS_ok hw.apart _ _ _ _ f1 p e2)
  ·exact absurd (show sg al q.1 = j1 by rw [f3, ← f1]; exact hj.symm) (apartS_ok hw.apart _ _ _ _ e1 q f2)
  ·subst hj
   exact us_same hu.ii e1 f1
 ·intro b hb hpu
  obtain ⟨id, o, l, _, h1, h2, h3, h4⟩ := own1 b hb
  exact hs.sep b ⟨id, o, l, h1, h2, h3, h4⟩ hpu
 ·intro id l hl
  show id < it.n
  unfold gamS at hl
  cases hk : it.kn id with
  | true =>
   rcases PFn.kn_ok hk with h2 | ⟨q, hq, h2⟩
   ·exact Nat.lt_of_lt_of_le h2 (Nat.le_trans hw.gl hw.n)
   ·have := (hw.os q hq).2; have := hw.n; omega
  | false =>
   rw [hk] at hl
   simp only [cond_false] at hl
   cases hf : us.find? (fun p => Nat.beq p.1 id) with
   | none => rw [hf] at hl; cases hl
   | some p =>
    have h3 := List.find?_some hf
    have h4 := List.mem_of_find?_eq_some hf
    have := (hu.c p h4).2
    rw [← Nat.eq_of_beq_eq_true h3]; exact this
 ·intro g' hg'
  obtain ⟨l, h3, h4⟩ := hs.glob g' hg'
  exact ⟨l, (hlow g' (PFn.kn_gl hg')).trans (by rw [sg_gl hg']; exact h3), h4⟩
 ·intro id s hst
  unfold GH.stamp at hst
  split at hst
  ·rename_i s' o' heq
   cases hst
   obtain ⟨h5, _⟩ := trOf_get heq
   show s < 0 + 1
   have : s = 0 := h5
   omega
  ·cases hst
theorem fixS_ok {σ : Nat → Nat} {kn : Nat → Bool} (hc : LowS σ kn Γ Γ') : ∀ {ts vs : List TV} {ws : List Value}, fixS σ kn ts vs = true → GRs Γ Pu I vs ws → GRs Γ' Pu I ts ws := by
 intro ts
 induction ts with
 | nil => intro vs ws h hr; cases vs with
  | nil => cases hr; exact .nil
  | cons => cases h
 | cons t r ih =>
  intro vs ws h hr
  cases hr with
  | nil => cases h
  | cons a b =>
   replace h := Go.Gv.and_true h; obtain ⟨h, h3⟩ := h
   replace h := Go.Gv.and_true h
   exact .cons (idK_ok hc h.1 (sameFix_ok h.2 a)) (ih h3 b)
end
end Go.Gv
/- Functions that are handed pointers: what is handed back; by its text; by depth; all that is known. -/
namespace Go.Gv
open Go Go.Iv
section
variable {P : Program} {hint : Hint} {sh : ShT} {O : Nat → Prop} {Γ Γ1 Γ2 Γ' : Gam} {Pu Pu1 Pu2 : Nat → Prop} {H H1 H2 : GH} {I I1 : IH} {β : Type} {r : β}
structure LeftP (P : Program) (hint : Hint) (sh : ShT) (n0 : Nat) (Γ : Gam) (Pu : Nat → Prop) (H : GH) (I : IH) (Γ1 : Gam) (Pu1 : Nat → Prop) (H1 : GH) (I1 : IH) : Prop where
 sim : Sim P hint sh Γ1 Pu1 H1 I1
 low : ∀ k l, k < n0 → Γ k = some l → Γ1 k = some l
 n : I.n ≤ I1.n
 p : ∀ b, Pu b → Pu1 b
 keep : ∀ b, b < I.n → ¬ Own Γ H I b → I1.get b = I.get b
 own : ∀ b, b < I.n → Own Γ1 H1 I1 b → Own Γ H I b
 pn : ∀ b, b < I.n → Pu1 b → Pu b ∨ Own Γ H I b
structure PFnOK (P : Program) (hint : Hint) (sh : ShT) (it : PFn) (n : Nat) : Prop where
 run : ∀ {x : argsTy it.pa × objTy it.os} {y : argsTy it.re × objTy it.os2} {Γ : Gam} {Pu : Nat → Prop} {I : IH} {us vs : List Value}, it.F n x = some y → Sim P hint sh Γ Pu (it.T.H ((), x.2)) I → GRs Γ Pu I it.ar us → Dats Pu I it.pa x.1 vs →
  ∃ Γ1 Pu1 I1 v, evCall P hint (ev P hint (gspec hint) (n + it.D)) it.f (us ++ vs) I = some (.returned v, I1) ∧ (∀ Γ2, GR Γ2 Pu1 I1 (resTV (encA it.re y.1)) v) ∧ LeftP P hint sh it.n0 Γ Pu (it.T.H ((), x.2)) I Γ1 Pu1 (it.T2.H ((), y.2)) I1
theorem decRH_ok {l : List (Bool × Sh)} {t : TV} {v : Value} {x : argsTy l} (hs : Sim P hint sh Γ Pu H I) (h : decRH l t H = some (x, H1)) (hr : GR Γ Pu I t v) :
  ∃ Pu1, Sim P hint sh Γ Pu1 H1 I ∧ Ex (Own Γ H I) Γ Pu H I Γ Pu1 H1 I ∧ ∀ Γ2, GR Γ2 Pu1 I (resTV (encA l x)) v := by
 unfold decRH at h
 split at h
 ·rename_i vs
  cases hr with | tup hr =>
  cases hb : Nat.beq l.length 1 with
  | true => rw [hb] at h; cases h
  | false =>
   rw [hb] at h
   simp only [cond_false] at h
   obtain ⟨Pu1, s1, e1, d1⟩ := decA_ok hs h hr
   refine ⟨Pu1, s1, e1, fun Γ2 => ?_⟩
   have hl := encA_length (l := l) (x := x)
   have hg := d1.grs (Γ := Γ2)
   have : resTV (encA l x) = .tup (encA l x) := by
    cases hq : encA l x with
    | nil => rfl
    | cons a r =>
     cases r with
     | nil => rw [hq] at hl; rw [← hl] at hb; cases hb
     | cons b r => rfl
   rw [this]
   exact .tup hg
 ·obtain ⟨Pu1, s1, e1, d1⟩ := decA_ok hs h (.cons hr .nil)
  refine ⟨Pu1, s1, e1, fun Γ2 => ?_⟩
  have hg := d1.grs (Γ := Γ2)
  cases hq : encA l x with
  | nil => rw [hq] at hg; cases hg
  | cons a r =>
   rw [hq] at hg
   cases hg with | cons c d => cases d; exact c
theorem PFnOK.of {it : PFn} {n : Nat} {hk : (β : Type) → Hooks β} {sh : ShT} (hT2 : it.T2.ok P hint) (ho : ∀ m, m ≤ n + it.D → HookOK P hint sh (hk (argsTy it.re × objTy it.os2)) m)
  (h : ∀ x s, gCall stx P sh hint (gv stx P sh hint (hk (argsTy it.re × objTy it.os2)) (n + it.D)) it.f (it.ar ++ encA it.pa x) (it.T.H ((), s)) (decP it) = it.F n (x, s)) : PFnOK P hint sh it n where
 run := fun {x y Γ Pu I us vs} hF hs ha hd => by
  have ok := gv_ok (P := P) (hint := hint) (sh := sh) (hk := hk (argsTy it.re × objTy it.os2)) (n + it.D) ho
  rw [← h x.1 x.2] at hF
  obtain ⟨t, H1, Γ1, Pu1, v, I1, k1, k2, k3, k4, k5⟩ := gCall_ok ok hs hF (ha.append (hd.grs (Γ := Γ)))
  unfold decP at k1
  split at k1
  ·rename_i z H2 hz
   split at k1
   ·rename_i s hst
    cases k1
    obtain ⟨Pu2, s2, e2, g2⟩ := decRH_ok k4 hz k3
    obtain ⟨q1, q2⟩ := normO_ok (l := it.T2.objs) s2
    have hst' : it.T2.get ⟨.e, .e⟩ (normO it.T2.objs H2) = some s := hst
    obtain ⟨Γ3, t1, _, t3, t4, _⟩ := it.T2.get_ok hT2 q1 (E := ⟨.e, .e⟩) (E' := ⟨.e, .e⟩) (fun t => ⟨.undef _, .undef _⟩) hst'
    have ee := Ex.trans hs s2 (Ex.trans hs k4 k5 e2) q2
    exact ⟨Γ3, Pu2, I1, v, k2, g2, t1, fun k l hk hl => t3 k l hk (ee.g k l hl), ee.n, ee.p, ee.keep, fun b hb ho => ee.own b hb (t4 b ho), ee.pn⟩
   ·cases k1
  ·cases k1
theorem delL_get {fr : List Nat} : ∀ {H : GH} {k : Nat}, (Go.Gv.delL fr H).get k = if k ∈ fr then none else H.get k := by
 induction fr with
 | nil => intro H k; simp [Go.Gv.delL]
 | cons a r ih =>
  intro H k
  show (Go.Gv.delL r (H.del a)).get k = _
  rw [ih, GH.get_del]
  by_cases h1 : k ∈ r <;> by_cases h2 : k = a <;> simp [h1, h2]
theorem delL_stamp {fr : List Nat} : ∀ {H : GH} {k : Nat}, (Go.Gv.delL fr H).stamp k = if k ∈ fr then none else H.stamp k := by
 induction fr with
 | nil => intro H k; simp [Go.Gv.delL]
 | cons a r ih =>
  intro H k
  show (Go.Gv.delL r (H.del a)).stamp k = _
  rw [ih, GH.stamp_del]
  by_cases h1 : k ∈ r <;> by_cases h2 : k = a <;> simp [h1, h2]
theorem layK_get {kn : Nat → Bool} {n0 n2 ck : Nat} {ρ : Nat → Nat} {Hc : GH} {t : Tr (Nat × GObj)} : ∀ {ks : List Nat} {id : Nat} {p : Nat × GObj}, (layK kn n0 n2 ck ρ Hc ks t).getF id = some p →
  (∃ k o, Hc.get k = some o ∧ (kn k = true ∨ n0 ≤ k ∧ k < n2) ∧ goodO kn n0 n2 o = true ∧ id = ρ k ∧ p = (ck, renO ρ o)) ∨ t.getF id = some p := by
 intro ks
 induction ks with
 | nil => intro id p h; exact .inr h
 | cons k r ih =>
  intro id p h
  unfold layK at h
  split at h
  ·rename_i o hg
   cases hb : ((kn k || (Nat.ble n0 k && Nat.blt k n2)) && goodO kn n0 n2 o) with
   | false => rw [hb] at h; exact ih h
   | true =>
    rw [hb] at h
    simp only [cond_true, Tr.getF_eq, Tr.putQ_eq] at h
    have hp := Tr.get_put (layK kn n0 n2 ck ρ Hc r t) (ρ k) (some (ck, renO ρ o)) id
    unfold Tr.put at hp
    rw [hp] at h
    split at h
    ·rename_i e
     cases h
     replace hb := Go.Gv.and_true hb
     refine .inl ⟨k, o, hg, ?_, hb.2, e, rfl⟩
     rw [Bool.or_eq_true] at hb
     rcases hb.1 with h1 | h1
     ·exact .inl h1
     ·replace h1 := Go.Gv.and_true h1
      exact .inr ⟨ble_true h1.1, blt_true h1.2⟩
    ·rw [← Tr.getF_eq] at h; exact ih h
  ·exact ih h
theorem renO_mut (ρ : Nat → Nat) (o : GObj) : (renO ρ o).mut = o.mut := by cases o <;> rfl
theorem renO_has {ρ : Nat → Nat} {o : GObj} {l : Loc} {b : Nat} : (renO ρ o).has I l b ↔ o.has I l b := by cases o <;> exact Iff.rfl
theorem goodV_ok {kn : Nat → Bool} {n0 n2 : Nat} {ρ : Nat → Nat} (hρ : ∀ k l, (kn k = true ∨ n0 ≤ k ∧ k < n2) → Γ1 k = some l → Γ2 (ρ k) = some l) : ∀ {cs : List TV} {vs : List Value}, cs.all (goodV kn n0 n2) = true → GRs Γ1 Pu I cs vs → GRs Γ2 Pu I (cs.map (renV ρ)) vs := by
 intro cs
 induction cs with
 | nil => intro vs _ h; cases h; exact .nil
 | cons t r ih =>
  intro vs hn h
  simp only [List.all_cons, Bool.and_eq_true] at hn
  cases h with | cons a b =>
  refine .cons ?_ (ih hn.2 b)
  have hn1 := hn.1
  cases t with
  | int k n => cases a; exact .int k n
  | byte c => cases a; exact .byte c
  | bool c => cases a; exact .bool c
  | str c => cases a; exact .str c
  | lst e xs nl cl => cases a with | lst x y z => exact .lst x y z
  | raw v => cases a; exact .raw _
  | undef => exact .undef _
  | all c =>
   cases a with | all x y =>
   refine .all (hρ c _ ?_ x) y
   unfold goodV at hn1
   rw [Bool.or_eq_true] at hn1
   rcases hn1 with h1 | h1
   ·exact .inl h1
   ·replace h1 := Go.Gv.and_true h1
    exact .inr ⟨ble_true h1.1, blt_true h1.2⟩
  | ptr c o => cases a with | ptr x y => exact .ptr (hρ c _ (.inl hn1) x) y
  | mp c => cases a with | mp x y => exact .mp (hρ c _ (.inl hn1) x) y
  | _ => cases hn1
theorem renO_ok {kn : Nat → Bool} {n0 n2 : Nat} {ρ : Nat → Nat} (hρ : ∀ k l, (kn k = true ∨ n0 ≤ k ∧ k < n2) → Γ1 k = some l → Γ2 (ρ k) = some l) {o : GObj} {l : Loc} (hg : goodO kn n0 n2 o = true) (h : OR P hint Γ1 Pu I l o) : OR P hint Γ2 Pu I l (renO ρ o) := by
 cases o with
 | cells et cs w =>
  obtain ⟨b, vs, fz, ex, sd, hp, hgb, hr, hw, hpu⟩ := h
  exact ⟨b, vs, fz, ex, sd, hp, hgb, goodV_ok hρ hg hr, hw, hpu⟩
 | arr et e xs w fz em => exact h
 | iter s p => exact h
 | map kt gk ge k e xs em => exact h
 | nest et e no net ne xs em ho =>
  have : ho = none := by simpa [goodO] using hg
  exact NestR.gam h this
 | loop => cases hg
def gamB (n0 n2 m : Nat) (Γ Γ1 : Gam) : Gam := fun id => if id < m then Γ id else if id < m + (n2 - n0) then Γ1 (n0 + (id - m)) else none
theorem PFn.leave (it : PFn) (hs : Sim P hint sh Γ Pu H I) {al : List (Nat × Nat)} {us : Us} {s : objTy it.os} {y : objTy it.os2} (hw : WfP it (sg al) us) (hlow : LowS (sg al) it.kn Γ Γ') (hs' : Sim P hint sh Γ' Pu (it.T.H ((), s)) I)
  (hobj : ∀ p ∈ it.os, ∃ o, H.get (sg al p.1) = some o)
  (hown : ∀ b, Own Γ' (it.T.H ((), s)) I b → ∃ id o l, id ∈ it.os.map (fun p => sg al p.1) ++ usIds us ∧ H.get id = some o ∧ o.mut = true ∧ Γ id = some l ∧ At I l o b)
  (hl : LeftP P hint sh it.n0 Γ' Pu (it.T.H ((), s)) I Γ1 Pu1 (it.T2.H ((), y)) I1) :
  Sim P hint sh (gamB it.n0 it.n2 H.n Γ Γ1) Pu1 (it.backH (sg al) us H y) I1 ∧ Ex (Own Γ H I) Γ Pu H I (gamB it.n0 it.n2 H.n Γ Γ1) Pu1 (it.backH (sg al) us H y) I1 := by
 have hG : ∀ id l, Γ id = some l → gamB it.n0 it.n2 H.n Γ Γ1 id = some l := fun id l h => by
  unfold gamB; rw [if_pos (hs.dom id l h)]; exact h
 have hρ : ∀ k l, (it.kn k = true ∨ it.n0 ≤ k ∧ k < it.n2) → Γ1 k = some l → gamB it.n0 it.n2 H.n Γ Γ1 (rho (sg al) it.n0 H.n k) = some l := by
  intro k l hk h1
  rcases hk with hk | ⟨h2, h3⟩
  ·have hlt : k < it.n0 := by
    rcases PFn.kn_ok hk with h2 | ⟨q, hq, h2⟩
    ·exact Nat.lt_of_lt_of_le h2 hw.gl
    ·have := (hw.os q hq).2; omega
   have : ∃ l0, Γ (sg al k) = some l0 := by
    rcases PFn.kn_ok hk with h2 | ⟨q, hq, h2⟩
    ·obtain ⟨l0, h3, _⟩ := hs.glob k h2
     exact ⟨l0, by rw [sg_gl h2]; exact h3⟩
    ·obtain ⟨o, ho⟩ := hobj q hq
     obtain ⟨l0, h3, _⟩ := hs.obj _ o ho
     exact ⟨l0, by rw [← h2]; exact h3⟩
   obtain ⟨l0, h4⟩ := this
   have h5 := hl.low k l0 hlt ((hlow k hk).trans h4)
   cases h1.symm.trans h5
   unfold rho
   rw [show Nat.blt k it.n0 = true from Nat.ble_eq_true_of_le hlt]
   exact hG _ _ h4
  ·have hb : Nat.blt k it.n0 = false := by
    cases hq : Nat.blt k it.n0 with
    | false => rfl
    | true => have := blt_true hq; omega
   unfold rho gamB
   rw [hb]
   simp only [cond_false]
   rw [if_neg (by omega), if_pos (by omega), show it.n0 + (H.n + (k - it.n0) - H.n) = k by omega]
   exact h1
 have hO : ∀ b, Own Γ' (it.T.H ((), s)) I b → Own Γ H I b := fun b hb => by
  obtain ⟨id, o, l, _, h1, h2, h3, h4⟩ := hown b hb
  exact ⟨id, o, l, h1, h2, h3, h4⟩
 have hpuI : ∀ b, Pu b → I1.get b = I.get b := fun b hb => hl.keep b (hs.pu_lt hb) fun ho => hs'.sep b ho hb
 have kk : Keep Γ Pu I (gamB it.n0 it.n2 H.n Γ Γ1) Pu1 I1 := ⟨hG, hl.p, hpuI⟩
 have frame : ∀ id o l b, id ∉ it.os.map (fun p => sg al p.1) ++ usIds us → H.get id = some o → o.mut = true → Γ id = some l → At I l o b → b < I.n ∧ ¬ Own Γ' (it.T.H ((), s)) I b := by
  intro id o l b hid hg hm hl' hat
  refine ⟨hs.own_lt ⟨id, o, l, hg, hm, hl', hat⟩, fun ho => ?_⟩
  obtain ⟨id2, o2, l2, h0, h1, h2, h3, h4⟩ := hown b ho
  have := hs.inj id id2 o o2 l l2 b hg h1 hm h2 hl' h3 hat h4
  exact hid (this ▸ h0)
 have frameI : ∀ id o l, id ∉ it.os.map (fun p => sg al p.1) ++ usIds us → H.get id = some o → o.mut = true → Γ id = some l → ∀ b, At I l o b → I1.get b = I.get b := by
  intro id o l hid hg hm hl' b hat
  obtain ⟨h1, h2⟩ := frame id o l b hid hg hm hl' hat
  exact hl.keep b h1 h2
 have frameA : ∀ id o l, id ∉ it.os.map (fun p => sg al p.1) ++ usIds us → H.get id = some o → o.mut = true → Γ id = some l → ∀ b, At I1 l o b → At I l o b := by
  intro id o l hid hg hm hl' b hat
  exact hat.congr fun b x hp => frameI id o l hid hg hm hl' b (.inl ⟨x, hp⟩)
 have cases2 : ∀ id s' o, (it.backH (sg al) us H y).t.getF id = some (s', o) →
   (∃ k o', (it.T2.H ((), y)).get k = some o' ∧ (it.kn k = true ∨ it.n0 ≤ k ∧ k < it.n2) ∧ goodO it.kn it.n0 it.n2 o' = true ∧ id = rho (sg al) it.n0 H.n k ∧ s' = H.ck ∧ o = renO (rho (sg al) it.n0 H.n) o') ∨
   (id ∉ it.os.map (fun p => sg al p.1) ++ usIds us ∧ H.get id = some o ∧ H.stamp id = some s') := by
  intro id s' o h
  rcases layK_get h with ⟨k, o', h1, h2, h3, h4, h5⟩ | h
  ·cases h5
   exact .inl ⟨k, o', h1, h2, h3, h4, rfl, rfl⟩
  ·right
   have hgd : (Go.Gv.delL (it.os.map (fun p => sg al p.1) ++ usIds us) H).get id = some o := by unfold GH.get; rw [h]
   have hsd : (Go.Gv.delL (it.os.map (fun p => sg al p.1) ++ usIds us) H).stamp id = some s' := by unfold GH.stamp; rw [h]
   rw [delL_get] at hgd
   rw [delL_stamp] at hsd
   split at hgd
   ·cases hgd
   ·rename_i hne
    rw [if_neg hne] at hsd
    exact ⟨hne, hgd, hsd⟩
 have getC : ∀ id o, (it.backH (sg al) us H y).get id = some o →
   (∃ k o' l, (it.T2.H ((), y)).get k = some o' ∧ (it.kn k = true ∨ it.n0 ≤ k ∧ k < it.n2) ∧ goodO it.kn it.n0 it.n2 o' = true ∧ id = rho (sg al) it.n0 H.n k ∧ o = renO (rho (sg al) it.n0 H.n) o' ∧ Γ1 k = some l ∧ gamB it.n0 it.n2 H.n Γ Γ1 id = some l ∧ OR P hint Γ1 Pu1 I1 l o') ∨
   (id ∉ it.os.map (fun p => sg al p.1) ++ usIds us ∧ H.get id = some o) := by
  intro id o h
  unfold GH.get at h
  split at h
  ·rename_i s' o' heq
   cases h
   rcases cases2 id s' o heq with ⟨k, o', h1, h2, h3, h4, _, h6⟩ | ⟨h1, h2, _⟩
   ·obtain ⟨l, h7, h8⟩ := hl.sim.obj k o' h1
    exact .inl ⟨k, o', l, h1, h2, h3, h4, h6, h7, by rw [h4]; exact hρ k l h2 h7, h8⟩
   ·exact .inr ⟨h1, h2⟩
  ·cases h
 have ownC : ∀ b, Own (gamB it.n0 it.n2 H.n Γ Γ1) (it.backH (sg al) us H y) I1 b → Own Γ1 (it.T2.H ((), y)) I1 b ∨ (∃ id o l, id ∉ it.os.map (fun p => sg al p.1) ++ usIds us ∧ H.get id = some o ∧ o.mut = true ∧ Γ id = some l ∧ At I l o b) := by
  rintro b ⟨id, o, l, hg, hm, hl', hat⟩
  rcases getC id o hg with ⟨k, o', l', h1, h2, h3, h4, h5, h6, h7, h8⟩ | ⟨h1, h2⟩
  ·cases hl'.symm.trans h7
   subst h5
   rw [renO_mut] at hm
   exact .inl ⟨k, o', l, h1, hm, h6, hat.imp (fun h => h) renO_has.1⟩
  ·obtain ⟨l0, h3, _⟩ := hs.obj id o h2
   cases hl'.symm.trans (hG _ _ h3)
   exact .inr ⟨id, o, l, h1, h2, hm, h3, frameA id o l h1 h2 hm h3 b hat⟩
 have apartB : ∀ b, (∃ id o l, id ∉ it.os.map (fun p => sg al p.1) ++ usIds us ∧ H.get id = some o ∧ o.mut = true ∧ Γ id = some l ∧ At I l o b) → ¬ Own Γ1 (it.T2.H ((), y)) I1 b := by
  rintro b ⟨id, o, l, h1, h2, h3, h4, h5⟩ ho
  obtain ⟨h6, h7⟩ := frame id o l b h1 h2 h3 h4 h5
  exact h7 (hl.own b h6 ho)
 have hstC : ∀ id s', (it.backH (sg al) us H y).stamp id = some s' → s' = H.ck ∨ (id ∉ it.os.map (fun p => sg al p.1) ++ usIds us ∧ H.stamp id = some s') := by
  intro id s' h
  unfold GH.stamp at h
  split at h
  ·rename_i s2 o heq
   cases h
   rcases cases2 id s' o heq with ⟨_, _, _, _, _, _, h5, _⟩ | ⟨h1, _, h3⟩
   ·exact .inl h5
   ·exact .inr ⟨h1, h3⟩
  ·cases h
 refine ⟨⟨?_, ?_, ?_, ?_, hl.sim.fresh, hl.sim.pu, hl.sim.ro, ?_, ?_, ?_, hl.sim.tab⟩, ⟨hG, ?_, hl.n, hl.p, ?_, ?_, ?_, ?_, ?_, ?_⟩⟩
 ·intro id o hg
  rcases getC id o hg with ⟨k, o', l', h1, h2, h3, h4, h5, h6, h7, h8⟩ | ⟨h1, h2⟩
  ·exact ⟨l', h7, by rw [h5]; exact renO_ok hρ h3 h8⟩
  ·obtain ⟨l, h3, _⟩ := hs.obj id o h2
   exact ⟨l, hG _ _ h3, hs.obj_keep kk h2 h3 fun hm b hat => frameI id o l h1 h2 hm h3 b hat⟩
 ·intro i j oi oj li lj b g1 g2 m1 m2 q1 q2 t1 t2
  rcases getC i oi g1 with ⟨k, o', l', h1, h2, h3, h4, h5, h6, h7, h8⟩ | ⟨h1, h2⟩ <;> rcases getC j oj g2 with ⟨k', o2, l2, f1, f2, f3, f4, f5, f6, f7, f8⟩ | ⟨f1, f2⟩
  ·cases q1.symm.trans h7
   cases q2.symm.trans f7
   subst h5 f5
   rw [renO_mut] at m1 m2
   have := hl.sim.inj k k' o' o2 li lj b h1 f1 m1 m2 h6 f6 (t1.imp (fun h => h) renO_has.1) (t2.imp (fun h => h) renO_has.1)
   rw [h4, f4, this]
  ·cases q1.symm.trans h7
   subst h5
   rw [renO_mut] at m1
   obtain ⟨l0, h9, _⟩ := hs.obj j oj f2
   cases q2.symm.trans (hG _ _ h9)
   exact absurd ⟨k, o', li, h1, m1, h6, t1.imp (fun h => h) renO_has.1⟩ (apartB b ⟨j, oj, lj, f1, f2, m2, h9, frameA j oj lj f1 f2 m2 h9 b t2⟩)
  ·cases q2.symm.trans f7
   subst f5
   rw [renO_mut] at m2
   obtain ⟨l0, h9, _⟩ := hs.obj i oi h2
   cases q1.symm.trans (hG _ _ h9)
   exact absurd ⟨k', o2, lj, f1, m2, f6, t2.imp (fun h => h) renO_has.1⟩ (apartB b ⟨i, oi, li, h1, h2, m1, h9, frameA i oi li h1 h2 m1 h9 b t1⟩)
  ·obtain ⟨l0, h9, _⟩ := hs.obj i oi h2
   cases q1.symm.trans (hG _ _ h9)
   obtain ⟨l1, f9, _⟩ := hs.obj j oj f2
   cases q2.symm.trans (hG _ _ f9)
   exact hs.inj i j oi oj li lj b h2 f2 m1 m2 h9 f9 (frameA i oi li h1 h2 m1 h9 b t1) (frameA j oj lj f1 f2 m2 f9 b t2)
 ·intro b hb hpu
  rcases ownC b hb with h | h
  ·exact hl.sim.sep b h hpu
  ·obtain ⟨id, o, l, h1, h2, h3, h4, h5⟩ := h
   obtain ⟨h6, h7⟩ := frame id o l b h1 h2 h3 h4 h5
   rcases hl.pn b h6 hpu with h8 | h8
   ·exact hs.sep b ⟨id, o, l, h2, h3, h4, h5⟩ h8
   ·exact h7 h8
 ·intro id l h
  show id < H.n + (it.n2 - it.n0)
  unfold gamB at h
  split at h
  ·omega
  ·split at h
   ·omega
   ·cases h
 ·show glN ≤ H.n + (it.n2 - it.n0)
  have := hs.gn; omega
 ·intro g hg
  obtain ⟨l, h1, h2⟩ := hs.glob g hg
  exact ⟨l, hG _ _ h1, h2⟩
 ·intro id s' h
  show s' < H.ck + 1
  rcases hstC id s' h with h1 | ⟨_, h1⟩
  ·omega
  ·have := hs.st id s' h1; omega
 ·show H.n ≤ H.n + (it.n2 - it.n0)
  omega
 ·intro b hb ho
  exact hl.keep b hb fun h => ho (hO b h)
 ·intro b hb ho
  rcases ownC b ho with h | ⟨id, o, l, h1, h2, h3, h4, h5⟩
  ·exact hO b (hl.own b hb h)
  ·exact ⟨id, o, l, h2, h3, h4, h5⟩
 ·intro b hb hp
  rcases hl.pn b hb hp with h | h
  ·exact .inl h
  ·exact .inr (hO b h)
 ·show H.ck ≤ H.ck + 1
  omega
 ·intro id _
  cases hq : (it.backH (sg al) us H y).stamp id with
  | none => exact .inl rfl
  | some s' =>
   rcases hstC id s' hq with h1 | ⟨_, h1⟩
   ·exact .inr (.inr ⟨s', rfl, by omega⟩)
   ·exact .inr (.inl h1.symm)
 ·intro id l b x s' h1 h2 h3 h4
  rcases hstC id s' h2 with h5 | ⟨h5, _⟩
  ·have := hs.st id s' h1; omega
  ·exact hs.hist_keep kk h1 h3 h4 fun o hg hm => frameI id o l h5 hg hm h3 b (.inl ⟨x, h4⟩)
theorem getObjsS_get {σ : Nat → Nat} {kn : Nat → Bool} {n : Nat} : ∀ {l : List (Nat × OT)} {us us' : Us} {x : objTy l}, getObjsS σ kn H n l us = some (x, us') → ∀ p ∈ l, ∃ o, H.get (σ p.1) = some o := by
 intro l
 induction l with
 | nil => intro us us' x _ p hp; cases hp
 | cons q r ih =>
  intro us us' x h p hp
  obtain ⟨k, t⟩ := q
  simp only [getObjsS] at h
  replace h := bif_some h; obtain ⟨hb, h⟩ := h
  split at h
  ·rename_i o hg
   split at h
   ·split at h
    ·rename_i h2
     rcases List.mem_cons.1 hp with rfl | hp
     ·exact ⟨o, hg⟩
     ·exact ih h2 p hp
    ·cases h
   ·cases h
  ·cases h
theorem PFnOK.hook {it : PFn} {n : Nat} (hT : it.T.ok P hint) (hok : ∀ m, m + it.D = n → PFnOK P hint sh it m) {args : List TV} {args' : List Value} {K : TV → GH → Option β} (h : it.hook β n args H K = some r) (hs : Sim P hint sh Γ Pu H I) (ha : GRs Γ Pu I args args') :
  CallGood P hint sh K r Γ Pu H I (evCall P hint (ev P hint (gspec hint) n) it.f args' I) := by
 unfold PFn.hook at h
 replace h := bif_some h; obtain ⟨hb, h⟩ := h
 have hle := ble_true hb
 split at h
 ·rename_i x H1 hd
  replace h := bif_some h; obtain ⟨hfx, h⟩ := h
  split at h
  ·rename_i s us hg
   replace h := bif_some h; obtain ⟨hwf, h⟩ := h
   cases hF : it.F (n - it.D) (x, s) with
   | none => rw [hF] at h; cases h
   | some y =>
    rw [hF] at h
    simp only [Option.bind_some] at h
    have hargs : args' = args'.take it.ar.length ++ args'.drop it.ar.length := (List.take_append_drop _ _).symm
    obtain ⟨Pu1, s1, e1, d1⟩ := decA_ok hs hd (ha.drop it.ar.length)
    have hw := PFn.wf_ok hwf
    obtain ⟨Γ', s2, low, own⟩ := PFn.enter it hT s1 hg hw
    have k1 := e1.keepV hs
    have gar : GRs Γ' Pu1 I it.ar (args'.take it.ar.length) := fixS_ok low hfx ((ha.take it.ar.length).mono k1)
    obtain ⟨Γ2, Pu2, I2, v, r1, r2, r3⟩ := (hok (n - it.D) (by omega)).run hF s2 gar d1
    rw [show n - it.D + it.D = n by omega, ← hargs] at r1
    obtain ⟨s3, e3⟩ := PFn.leave it s1 hw low s2 (getObjsS_get hg) own r3
    exact ⟨_, _, _, _, v, I2, h, r1, r2 _, s3, Ex.trans hs s1 e1 e3⟩
  ·cases h
 ·cases h
def findP (f : FuncId) : List PFn → Option PFn
 | [] => none
 | it :: r => bif Nat.beq it.f f then some it else findP f r
theorem findP_ok {f : FuncId} : ∀ {l : List PFn} {it : PFn}, findP f l = some it → it ∈ l ∧ it.f = f := by
 intro l
 induction l with
 | nil => intro it h; cases h
 | cons a r ih =>
  intro it h
  unfold findP at h
  cases hb : Nat.beq a.f f with
  | true => rw [hb] at h; cases h; exact ⟨List.mem_cons_self, beq_true hb⟩
  | false => rw [hb] at h; obtain ⟨h1, h2⟩ := ih h; exact ⟨List.mem_cons_of_mem _ h1, h2⟩
noncomputable def Known.hkP (k : Known) (ps : List PFn) (β : Type) : Hooks β where
 call := fun f => match findP f ps with
  | some it => some (it.hook β)
  | none => (k.hk β).call f
 loop := (k.hk β).loop
structure KnownP (P : Program) (hint : Hint) (sh : ShT) (ps : List PFn) : Prop where
 ps : ∀ it ∈ ps, (∀ n, PFnOK P hint sh it n) ∧ it.T.ok P hint
theorem KnownP.nil : KnownP P hint sh [] := ⟨fun it h => by cases h⟩
theorem KnownP.fn {ps : List PFn} (h : KnownP P hint sh ps) {it : PFn} (hi : ∀ n, PFnOK P hint sh it n) (hT : it.T.ok P hint) : KnownP P hint sh (it :: ps) :=
 ⟨fun a ha => by
  rcases List.mem_cons.1 ha with rfl | ha
  ·exact ⟨hi, hT⟩
  ·exact h.ps a ha⟩
theorem KnownOK.hookP {k : Known} (h : KnownOK P hint sh k) {ps : List PFn} (hp : KnownP P hint sh ps) (n : Nat) : HookOK P hint sh (k.hkP ps β) n where
 call := fun {f g args args' H K r Γ Pu I} hg hr hs ha => by
  simp only [Known.hkP] at hg
  split at hg
  ·rename_i it hit
   cases hg
   obtain ⟨hm, rfl⟩ := findP_ok hit
   exact PFnOK.hook (hp.ps it hm).2 (fun m _ => (hp.ps it hm).1 m) hr hs ha
  ·exact (h.hook n).call hg hr hs ha
 loop := fun {fid fi ro ro' c g E E' H K r Γ Pu I n0 D} hg hr hs he hf hro hd hn => (h.hook n).loop hg hr hs he hf hro hd hn
theorem PFnOK.zero {it : PFn} (h : ∀ n x, it.F n x = none) (n : Nat) : PFnOK P hint sh it n where
 run := fun {x y Γ Pu I us vs} hF _ _ _ => by
  rw [h] at hF; cases hF
theorem PFnOK.byDepth {it : PFn} {D : Nat} (b : (Nat → argsTy it.pa × objTy it.os → Option (argsTy it.re × objTy it.os2)) → Nat → argsTy it.pa × objTy it.os → Option (argsTy it.re × objTy it.os2)) (Fd : Nat → Nat → argsTy it.pa × objTy it.os → Option (argsTy it.re × objTy it.os2))
  (h0 : ∀ n x, Fd 0 n x = none) (hs : ∀ d n x, Fd (d + 1) n x = bif Nat.ble D n then b (Fd d) (n - D) x else none)
  (hb : ∀ Fr, (∀ m, PFnOK P hint sh { it with D := 0, F := Fr } m) → ∀ n, PFnOK P hint sh { it with D := D, F := b Fr } n) : ∀ d n, PFnOK P hint sh { it with D := 0, F := Fd d } n := by
 intro d
 induction d with
 | zero => exact fun n => PFnOK.zero (it := { it with D := 0, F := Fd 0 }) h0 n
 | succ d ih =>
  intro n
  refine ⟨fun {x y Γ Pu I us vs} hF hS hA hD => ?_⟩
  have h2 : Fd (d + 1) n x = some y := hF
  rw [hs] at h2
  cases hle : Nat.ble D n with
  | false => rw [hle] at h2; cases h2
  | true =>
   rw [hle, cond_true] at h2
   have hD2 : n - D + D = n := Nat.sub_add_cancel (Nat.le_of_ble_eq_true hle)
   have := (hb (Fd d) ih (n - D)).run (x := x) (y := y) (Γ := Γ) h2 hS hA hD
   simp only [hD2] at this
   exact this
theorem PFnOK.diag {it : PFn} (Fd : Nat → Nat → argsTy it.pa × objTy it.os → Option (argsTy it.re × objTy it.os2)) (h : ∀ d n, PFnOK P hint sh { it with D := 0, F := Fd d } n) (n : Nat) : PFnOK P hint sh { it with D := 0, F := fun n x => Fd n n x } n :=
 ⟨fun {x y Γ Pu I us vs} hF hS hA hD => (h n n).run (x := x) (y := y) (Γ := Γ) hF hS hA hD⟩
end
end Go.Gv
