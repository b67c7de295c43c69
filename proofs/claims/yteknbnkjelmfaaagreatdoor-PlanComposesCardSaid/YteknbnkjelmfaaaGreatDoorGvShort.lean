/- Short ways to tell that printed functions are right. -/
import Derived.Test.YteknbnkjelmfaaaGreatDoorGvPlain
set_option linter.unusedSimpArgs false
set_option linter.unusedVariables false
namespace Go.Gv
open Go Go.Iv
section
variable {P:Program} {hint:Hint} {sh:bU}
def LP (P:Program) (hint:Hint) (sh:bU) (it:bV):Prop:=(∀ n,cA P hint sh it n)/\it.T.ok P hint
def FO (P:Program) (hint:Hint) (sh:bU) (it:fH):Prop:=∀ n,ig P hint sh it n
theorem ab.lp {k:dq} (h:ab P hint sh k) {it:bV} (hi:LP P hint sh it):ab P hint sh ⟨k.fns,it::k.loops⟩:=h.loop hi.1 hi.2
theorem ab.fo {k:dq} (h:ab P hint sh k) {it:fH} (hi:FO P hint sh it):ab P hint sh ⟨it::k.fns,k.loops⟩:=h.fn hi
def SW (n0 ck:Nat):List (XK×Tm)->Bool
 | []=>true
 |(_,T)::r=>T.fZ.all (fun p=>nA p.2) &&(Nat.ble n0 T.n0 &&(Nat.ble ck T.ck &&SW n0 ck r))
theorem EI {n0 ck:Nat}:∀ {l:List (XK×Tm)},SW n0 ck l=true->Pt P hint n0 ck l
 | [],_=>trivial
 |(_,T)::r,h=>by
  simp only [SW,zae] at h;exact ⟨⟨Tm.J8 h.1,Nat.le_of_ble_eq_true h.2.1,Nat.le_of_ble_eq_true h.2.2.1⟩,EI h.2.2.2⟩
theorem fG {k:dq} {it:bV} (hk:ab P hint sh k) (h1:Nat.beq (pc P it.bx it.gR).length 1=true:=by kernel_rfl) (h2:it.T.fZ.all (fun p=>nA p.2)=true:=by kernel_rfl) (h3:SW it.T.n0 it.T.ck it.ex=true:=by kernel_rfl)
  (h0:∀ x,it.L 0 x=none:=by intro x;kernel_rfl) (h:∀ m x,gC stx P sh (gv stx P sh hint (k.hk (qK it.ex)) (m+1+it.D)) it.bx (k8 P hint it.bx) it.ro (Dz P it.bx it.gR) (it.T.E x) (it.T.H x) (it.Kb m)=it.L (m+1) x:=by intro m x;kernel_rfl):LP P hint sh it:=
 ⟨cA.of (hk:=fun Z=>k.hk Z) (sh:=sh) (eH.of h1) (Tm.J8 h2) (EI h3) (fun m=>ab.eR hk m) h0 h,Tm.J8 h2⟩
theorem UP {k:dq} {ps:List du} {it:bV} (hk:ab P hint sh k) (hp:eb P hint sh ps) (h1:Nat.beq (pc P it.bx it.gR).length 1=true:=by kernel_rfl) (h2:it.T.fZ.all (fun p=>nA p.2)=true:=by kernel_rfl) (h3:SW it.T.n0 it.T.ck it.ex=true:=by kernel_rfl)
  (h0:∀ x,it.L 0 x=none:=by intro x;kernel_rfl) (h:∀ m x,gC stx P sh (gv stx P sh hint (k.QK ps (qK it.ex)) (m+1+it.D)) it.bx (k8 P hint it.bx) it.ro (Dz P it.bx it.gR) (it.T.E x) (it.T.H x) (it.Kb m)=it.L (m+1) x:=by intro m x;kernel_rfl):LP P hint sh it:=
 ⟨cA.of (hk:=fun Z=>k.QK ps Z) (sh:=sh) (eH.of h1) (Tm.J8 h2) (EI h3) (fun m=>ab.G5 hk hp m) h0 h,Tm.J8 h2⟩
theorem dv {k:dq} {it:fH} (hk:ab P hint sh k) (h:∀ n x,nc stx P sh hint (gv stx P sh hint (k.hk (aw it.re)) (n+it.D)) it.f (dC it.pa x) H0 (EL it.re)=it.F n x:=by intro n x;kernel_rfl):FO P hint sh it:=
 fun n=>ig.of (hk:=fun Z=>k.hk Z) (sh:=sh) (fun m _=>ab.eR hk m) (h n)
theorem Tj {k:dq} {ps:List du} {it:fH} (hk:ab P hint sh k) (hp:eb P hint sh ps) (h:∀ n x,nc stx P sh hint (gv stx P sh hint (k.QK ps (aw it.re)) (n+it.D)) it.f (dC it.pa x) H0 (EL it.re)=it.F n x:=by intro n x;kernel_rfl):FO P hint sh it:=
 fun n=>ig.of (hk:=fun Z=>k.QK ps Z) (sh:=sh) (fun m _=>ab.G5 hk hp m) (h n)
theorem eb.pz {ps:List du} (h:eb P hint sh ps) {it:du} (hi:∀ n,cC P hint sh it n) (h2:it.T.fZ.all (fun p=>nA p.2)=true:=by kernel_rfl):eb P hint sh (it::ps):=h.fn hi (Tm.J8 h2)
theorem T9 {k:dq} {it:du} (n:Nat) (hk:ab P hint sh k) (h2:it.T2.fZ.all (fun p=>nA p.2)=true:=by kernel_rfl)
  (h:∀ n x s,nc stx P sh hint (gv stx P sh hint (k.hk (PR it.pt (aw it.re×R2 it.ow (bc it.xY)))) (n+it.D)) it.f (it.ar++dC it.pa x) (it.T.H ((),s)) (RF it s)=it.F n (x,s):=by intro n x s;kernel_rfl):cC P hint sh it n:=
 cC.of (hk:=fun Z=>k.hk Z) (sh:=sh) (Tm.J8 h2) (fun m _=>ab.eR hk m) (h n)
theorem UI {k:dq} {ps:List du} {it:du} (n:Nat) (hk:ab P hint sh k) (hp:eb P hint sh ps) (h2:it.T2.fZ.all (fun p=>nA p.2)=true:=by kernel_rfl)
  (h:∀ n x s,nc stx P sh hint (gv stx P sh hint (k.QK ps (PR it.pt (aw it.re×R2 it.ow (bc it.xY)))) (n+it.D)) it.f (it.ar++dC it.pa x) (it.T.H ((),s)) (RF it s)=it.F n (x,s):=by intro n x s;kernel_rfl):cC P hint sh it n:=
 cC.of (hk:=fun Z=>k.QK ps Z) (sh:=sh) (Tm.J8 h2) (fun m _=>ab.G5 hk hp m) (h n)
end
end Go.Gv
