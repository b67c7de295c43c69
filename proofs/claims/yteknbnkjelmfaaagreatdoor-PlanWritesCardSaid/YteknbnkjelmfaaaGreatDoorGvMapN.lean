/- Maps that hold lists: taken out, laid back. -/
import Derived.Test.YteknbnkjelmfaaaGreatDoorGvNestX
set_option linter.unusedSimpArgs false
set_option linter.unusedVariables false
namespace Go.Gv
open Go Go.Iv
section
variable {β:Type} {P:Program} {hint:Hint} {sh:cz} {Γ Γ1 Γ':bj} {Pu Pu1:Nat->Prop} {H H1:GH} {I I1 I':IH} {K:TV->GH->Option β} {r:β}
theorem Mw (hs:aE P hint sh Γ Pu H I) (id:Nat):aE P hint sh Γ Pu (Jv H id) I/\Ex (bT Γ H I) Γ Pu H I Γ Pu (Jv H id) I:=⟨hs,Ex.refl hs⟩
theorem Ds (hs:aE P hint sh Γ Pu H I) {t:TypeId} {n:Option TV} {n':Option Value} (h:sQ P sh H t n K=some r) (hn:dO Γ Pu I n n'):Good P hint sh K r Γ Pu H I (aA (bS P I t n')):=EU hs h hn
theorem uo (hs:aE P hint sh Γ Pu H I) {t:TypeId} {m k v:TV} {m' k' v':Value} (h:vC ek P H t m k v K=some r) (hm:GR Γ Pu I m m') (hk:GR Γ Pu I k k') (hv:GR Γ Pu I v v'):Good P hint sh K r Γ Pu H I (aA (ey P I t m' k' v')):=IK hs h hm hk hv
theorem EL (hs:aE P hint sh Γ Pu H I) {t:TypeId} {x k:TV} {x' k':Value} {ok:Bool} (h:GL P sh H t x k ok K=some r) (hx:GR Γ Pu I x x') (hk:GR Γ Pu I k k'):Good P hint sh K r Γ Pu H I (aA (cA P I t x' k' ok)):=Jo hs h hx hk
end
end Go.Gv
