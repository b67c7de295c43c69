/- Some objects become others: those that were concerned give their blocks, those that come of them have them. -/
import Derived.Test.YteknbnkjelmfaaaGreatDoorGvHeap
import Derived.Test.YteknbnkjelmfaaaGreatDoorGvMap
import Derived.Test.YteknbnkjelmfaaaGreatDoorGvSimX
import Derived.Test.YteknbnkjelmfaaaGreatDoorGvOpsY
set_option linter.unusedSimpArgs false
set_option linter.unusedVariables false
namespace Go.Gv
open Go Go.Iv
section
variable {P:Program} {hint:Hint} {sh:cz}
variable {Γ Γ':bj} {Pu:Nat->Prop} {H H':GH} {I I':IH}
def Of (C:Nat->Prop) (Γ:bj) (H:GH) (I:IH) (b:Nat):Prop:=∃ k o l,C k/\H.get k=some o/\o.dw=true/\Γ k=some l/\At I l o b
theorem Of.own {C:Nat->Prop} {b:Nat} (h:Of C Γ H I b):bT Γ H I b:=by
 obtain ⟨k,o,l,_,h1,h2,h3,h4⟩:=h;exact ⟨k,o,l,h1,h2,h3,h4⟩
end
end Go.Gv
/- Lists whose elements hold lists: the operations. -/
namespace Go.Gv
open Go Go.Iv
section
variable {β:Type} {P:Program} {hint:Hint} {sh:cz} {Γ Γ1 Γ':bj} {Pu Pu1:Nat->Prop} {H H1:GH} {I I1 I':IH} {K:TV->GH->Option β} {r:β}
end
end Go.Gv
/- Lists whose elements hold lists: taken out, laid back. -/
namespace Go.Gv
open Go Go.Iv
section
variable {β:Type} {P:Program} {hint:Hint} {sh:cz} {Γ Γ1 Γ':bj} {Pu Pu1:Nat->Prop} {H H1:GH} {I I1 I':IH} {K:TV->GH->Option β} {r:β}
theorem ll.exact {l:Loc} {et:TypeId} {e:Sh} {xs:List e.ty} {w fz:Bool} {em:Em} (h:ll Pu I l et e xs w fz em) (hem:em= .ex∨xs≠ []):ll Pu I l et e xs w fz .ex:=by
 rcases hem with rfl |hne
 ·exact h
 ·obtain ⟨h1,h2,h3,h4 |⟨b,o,vs,f,ex,sd,hp,he,hr⟩⟩:=h
  ·exact absurd h4.2.1 hne
  ·exact ⟨h1,h2,h3,.inr ⟨b,o,vs,f,ex,sd,hp,fun _=>hne,hr⟩⟩
theorem AN (hs:aE P hint sh Γ Pu H I) (id:Nat):aE P hint sh Γ Pu (C6 H id) I/\Ex (bT Γ H I) Γ Pu H I Γ Pu (C6 H id) I:=⟨hs,Ex.refl hs⟩
end
end Go.Gv
/- Lists whose elements hold lists: the operations. -/
namespace Go.Gv
open Go Go.Iv
section
variable {β:Type} {P:Program} {hint:Hint} {sh:cz} {Γ Γ1 Γ':bj} {Pu Pu1:Nat->Prop} {H H1:GH} {I I1 I':IH} {K:TV->GH->Option β} {r:β}
theorem Good.after (hs:aE P hint sh Γ Pu H I) (h1:aE P hint sh Γ1 Pu1 H1 I1) (he:Ex (bT Γ H I) Γ Pu H I Γ1 Pu1 H1 I1) {run:Option (Value×IH)} (h:Good P hint sh K r Γ1 Pu1 H1 I1 run):Good P hint sh K r Γ Pu H I run:=by
 obtain ⟨t,H2,Γ2,Pu2,v,I2,a,b,c,d,e⟩:=h;exact ⟨t,H2,Γ2,Pu2,v,I2,a,b,c,d,Ex.trans hs h1 he e⟩
theorem O9 (hs:aE P hint sh Γ Pu H I) {t:TypeId} {x:TV} {x':Value} (h:Pb P H t x K=some r) (hx:GR Γ Pu I x x'):Good P hint sh K r Γ Pu H I (aA (Iv.valOf I (eA P I t x'))):=Tj hs h hx
theorem uy {t:TypeId} {e:Sh} {xs:List e.ty} {nl:Option Bool} {cl:Bool} {ix:TV}:ji ek P sh H t (.aT e xs nl cl) ix K=fJ ek P sh H t (.aT e xs nl cl) ix K:=rfl
theorem wA (hs:aE P hint sh Γ Pu H I) {t:TypeId} {x ix:TV} {x' ix':Value} (h:ji ek P sh H t x ix K=some r) (hx:GR Γ Pu I x x') (hi:GR Γ Pu I ix ix'):Good P hint sh K r Γ Pu H I (aA (bt P I t x' ix')):=zB hs h hx hi
theorem Ir {t:TypeId} {cs:List TV}:vZ ek P sh H t (.oe cs) K=tv ek P H t (.oe cs) K:=rfl
theorem LH (hs:aE P hint sh Γ Pu H I) {t:TypeId} {a:TV} {a':Value} (h:vZ ek P sh H t a K=some r) (ha:GR Γ Pu I a a'):Good P hint sh K r Γ Pu H I (aA (dZ P I t a')):=Qg hs h ha
end
end Go.Gv
/- Lists whose elements hold lists: an element's other cells are written. -/
namespace Go.Gv
open Go Go.Iv
section
variable {β:Type} {P:Program} {hint:Hint} {sh:cz} {Γ Γ1 Γ':bj} {Pu Pu1:Nat->Prop} {H H1:GH} {I I1 I':IH} {K:TV->GH->Option β} {r:β}
theorem kQ:∀ (vs bs:List Value) (o k:Nat),(k<o∨o+vs.length<=k)->(aF bs o vs)[k]? =bs[k]? :=by
 intro vs
 induction vs with
 |nil=>intro bs o k _;rfl
 |cons v vs ih=>
  intro bs o k h;simp only [aF];simp only [zad] at h;rw [ih _ (o+1) k (by omega),List.getElem?_set_ne (by omega)]
theorem bI.plain:∀ {l:List TV} {vs:List Value},l.all UY=true->bI Γ Pu I l vs->bI Γ' Pu1 I' l vs:=by
 intro l vs h;refine bI.flat ?_;rw [List.all_eq_true] at h ⊢;intro t ht;have:=h t ht;cases t<;>first |rfl |cases this
theorem Ic (hs:aE P hint sh Γ Pu H I) {t:TypeId} {a x:TV} {a' x':Value} (h:Kp ek P H t a x K=some r) (ha:GR Γ Pu I a a') (hx:GR Γ Pu I x x'):Good P hint sh K r Γ Pu H I (aA (cE P I t a' x')):=MM hs h ha hx
end
end Go.Gv
/- Lists whose elements hold lists: new ones. -/
namespace Go.Gv
open Go Go.Iv
section
variable {β:Type} {P:Program} {hint:Hint} {sh:cz} {Γ Γ1 Γ':bj} {Pu Pu1:Nat->Prop} {H H1:GH} {I I1 I':IH} {K:TV->GH->Option β} {r:β}
theorem vO (hs:aE P hint sh Γ Pu H I) {t:TypeId} {eq:Bool} {l c:TV} {l' c':Value} (h:mr ek P sh H t eq l c K=some r) (hl:GR Γ Pu I l l') (hc:GR Γ Pu I c c') (heq:eq=true->l=c):Good P hint sh K r Γ Pu H I (aA (bz P I t l' c')):=zI hs h hl hc heq
theorem uW (hs:aE P hint sh Γ Pu H I) {t:TypeId} {len:Nat} {ps:List (Nat×TV)} {ps':List (Nat×Value)} (h:kh P sh H t len ps K=some r) (hp:HL Γ Pu I ps ps'):Good P hint sh K r Γ Pu H I (aA (bg P I t len ps')):=yX hs h hp
end
end Go.Gv
/- Lists whose elements hold lists: elements without lists are appended. -/
namespace Go.Gv
open Go Go.Iv
section
variable {β:Type} {P:Program} {hint:Hint} {sh:cz} {Γ Γ1 Γ':bj} {Pu Pu1:Nat->Prop} {H H1:GH} {I I1 I':IH} {K:TV->GH->Option β} {r:β}
theorem xu:∀ (bs:List Value) (o:Nat) (vs:List Value),(aF bs o vs).length=bs.length:=by
 intro bs o vs
 induction vs generalizing bs o with
 |nil=>rfl
 |cons v r ih=>show (aF (bs.set o v) (o+1) r).length=_;rw [ih,List.length_set]
theorem Fo (hs:aE P hint sh Γ Pu H I) {argTypes:Array TypeId} {s x:TV} {s' x':Value} (h:He ek P sh H argTypes s x K=some r) (hsr:GR Γ Pu I s s') (hxr:GR Γ Pu I x x'):Good P hint sh K r Γ Pu H I (aA (iy P I argTypes s' x')):=H8 hs h hsr hxr
end
end Go.Gv
