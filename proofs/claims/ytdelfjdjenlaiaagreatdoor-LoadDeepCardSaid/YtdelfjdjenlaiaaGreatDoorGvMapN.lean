/- Maps that hold lists: taken out, laid back. -/
import Derived.Test.YtdelfjdjenlaiaaGreatDoorGvNestX
set_option linter.unusedSimpArgs false
set_option linter.unusedVariables false
namespace Go.Gv
open Go Go.Iv
section
variable {β:Type} {P:Program} {hint:Hint} {sh:cA} {Γ Γ1 Γ':bc} {Pu Pu1:Nat->Prop} {H H1:GH} {I I1 I':IH} {K:TV->GH->Option β} {r:β}
theorem MZ (hs:aw P hint sh Γ Pu H I) (id:Nat):aw P hint sh Γ Pu (Jz H id) I/\Ex (bx Γ H I) Γ Pu H I Γ Pu (Jz H id) I:=⟨hs,Ex.refl hs⟩
theorem Dh (hs:aw P hint sh Γ Pu H I) {t:TypeId} {n:Option TV} {n':Option Value} (h:sw P sh H t n K=some r) (hn:eh Γ Pu I n n'):Good P hint sh K r Γ Pu H I (aq (cj P I t n')):=Gi hs h hn
theorem tQ (hs:aw P hint sh Γ Pu H I) {t:TypeId} {m k v:TV} {m' k' v':Value} (h:yh dW P H t m k v K=some r) (hm:GR Γ Pu I m m') (hk:GR Γ Pu I k k') (hv:GR Γ Pu I v v'):Good P hint sh K r Γ Pu H I (aq (eR P I t m' k' v')):=Jp hs h hm hk hv
theorem Fp (hs:aw P hint sh Γ Pu H I) {t:TypeId} {x k:TV} {x' k':Value} {ok:Bool} (h:Fs P sh H t x k ok K=some r) (hx:GR Γ Pu I x x') (hk:GR Γ Pu I k k'):Good P hint sh K r Γ Pu H I (aq (cU P I t x' k' ok)):=IN hs h hx hk
end
end Go.Gv
