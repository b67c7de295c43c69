/- Maps that hold lists: taken out, laid back. -/
import Derived.Test.YteknbnkjelmfaaaGreatDoorGvNestX
set_option linter.unusedSimpArgs false
set_option linter.unusedVariables false
namespace Go.Gv
open Go Go.Iv
section
variable {Z:Type} {P:Program} {hint:Hint} {sh:bU} {Γ Γ1 Γ':aN} {Pu Pu1:Nat->Prop} {H H1:GH} {I I1 I':IH} {K:TV->GH->Option Z} {r:Z}
theorem Ic (hs:au P hint sh Γ Pu H I) (id:Nat):au P hint sh Γ Pu (DV H id) I/\Ex (bk Γ H I) Γ Pu H I Γ Pu (DV H id) I:=⟨hs,Ex.refl hs⟩
theorem zS (hs:au P hint sh Γ Pu H I) {t:TypeId} {n:Option TV} {n':Option Value} (h:qC P sh H t n K=some r) (hn:dW Γ Pu I n n'):Good P hint sh K r Γ Pu H I (an (bZ P I t n')):=BJ hs h hn
theorem rJ (hs:au P hint sh Γ Pu H I) {t:TypeId} {m k v:TV} {m' k' v':Value} (h:vh dS P H t m k v K=some r) (hm:GR Γ Pu I m m') (hk:GR Γ Pu I k k') (hv:GR Γ Pu I v v'):Good P hint sh K r Γ Pu H I (an (fw P I t m' k' v')):=FH hs h hm hk hv
theorem C9 (hs:au P hint sh Γ Pu H I) {t:TypeId} {x k:TV} {x' k':Value} {ok:Bool} (h:Di P sh H t x k ok K=some r) (hx:GR Γ Pu I x x') (hk:GR Γ Pu I k k'):Good P hint sh K r Γ Pu H I (an (cN P I t x' k' ok)):=D9 hs h hx hk
end
end Go.Gv
