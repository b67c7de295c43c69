/- Plain functions for the program's. -/
import Derived.Test.YtjaiiojikollmaaDoorGs
import Derived.Test.YtjaiiojikollmaaDoorProg
import Derived.KernelRfl
set_option linter.unusedSimpArgs false
set_option linter.unusedVariables false
namespace Go.Proofs.YtjaiiojikollmaaDoor
open Go Go.Iv Go.Gv
set_option maxRecDepth 100000
noncomputable def alive (_n : Nat) : Option (Bool × Unit) :=
  some (Bool.true, ())
noncomputable def alive_it : FnIt := ⟨8, [], [(false, .bool)], 11, fun n _ => alive n⟩
theorem alive_ok (n : Nat) : FnOK Go.Proofs.Tryd.prog hint shT alive_it n :=
  FnOK.of (hk := fun β => (Known.mk [] []).hk β) (sh := shT) (fun m _ => KnownOK.hook KnownOK.nil m) (fun x => by kernel_rfl)

noncomputable def right (_n : Nat) (c : Int) : Option (Bool × Unit) :=
  bif (Go.Iv.ile (0 : Int) c) then
    bif (Go.Iv.ile c (1114111 : Int)) then
      bif (Go.Iv.ilt c (55296 : Int)) then
        some (Bool.true, ())
      else
      some ((Go.Iv.ilt (57343 : Int) c), ())
    else
    some (Bool.false, ())
  else
  some (Bool.false, ())
noncomputable def right_it : FnIt := ⟨22, [(false, (.int .i64))], [(false, .bool)], 0, fun n x => right n x.1⟩
theorem right_ok (n : Nat) : FnOK Go.Proofs.Tryd.prog hint shT right_it n :=
  FnOK.of (hk := fun β => (Known.mk [alive_it] []).hk β) (sh := shT) (fun m _ => KnownOK.hook (KnownOK.nil.fn alive_ok) m) (fun x => by kernel_rfl)

noncomputable def L25_4_Xexit0 : Tm := ⟨[], [], 64, 64, 1000⟩
noncomputable def L25_4_Xret : Tm := ⟨[(4, .one (.bool))], [], 64, 64, 1000⟩
noncomputable def L25_4_T : Tm := ⟨[(0, .one (.lst .byte)), (1, .one (.lst .byte)), (5, .one (.int .i64))], [], 64, 64, 1000⟩
noncomputable def L25_4 : Nat → (List UInt8) → (List UInt8) → Int → Option ((Unit × Unit) ⊕ ((Bool × Unit) × Unit))
  | 0, _, _, _ => none
  | n + 1, t0, t1, t5 =>
    bif (Go.Iv.ilt t5 (len t1)) then
      bif (Go.Iv.ile (0 : Int) t5) then
      Option.bind (t0[(Int.toNat t5)]?) fun x4 =>
      bif (Go.Iv.ile (0 : Int) t5) then
      Option.bind (t1[(Int.toNat t5)]?) fun x5 =>
      bif (x4 != x5) then
        some (.inr ((Bool.false, ()), ()))
      else
      L25_4 n t0 t1 (Go.IntKind.wrap Go.IntKind.i64 (t5 + (1 : Int)))
      else none
      else none
    else
    some (.inl ((), ()))
noncomputable def L25_4_it : LoopIt := ⟨25, 4, none, L25_4_T, [(.exit 0, L25_4_Xexit0), (.ret, L25_4_Xret)], 0, fun n x => L25_4 n x.1.1 x.1.2.1 x.1.2.2.1⟩
theorem L25_4_Xexit0_ok : L25_4_Xexit0.ok Go.Proofs.Tryd.prog hint := by
  intro p hp
  cases hp
theorem L25_4_Xret_ok : L25_4_Xret.ok Go.Proofs.Tryd.prog hint := by
  intro p hp
  cases hp
theorem L25_4_T_ok : L25_4_T.ok Go.Proofs.Tryd.prog hint := by
  intro p hp
  cases hp
theorem L25_4_ok : ∀ n, LoopOK Go.Proofs.Tryd.prog hint shT L25_4_it n :=
  LoopOK.of (hk := fun β => (Known.mk [right_it, alive_it] []).hk β) (sh := shT) (OneLoop.of (by kernel_rfl)) L25_4_T_ok ⟨⟨L25_4_Xexit0_ok, Nat.le_refl _, Nat.le_refl _⟩, ⟨L25_4_Xret_ok, Nat.le_refl _, Nat.le_refl _⟩, trivial⟩ (fun m => KnownOK.hook ((KnownOK.nil.fn alive_ok).fn right_ok) m)
    (fun _ => by kernel_rfl) (fun m x => by kernel_rfl)

noncomputable def isR (n : Nat) (b : List UInt8) (l : List UInt8) : Option (Bool × Unit) :=
  bif (Go.Iv.ilt (len b) (len l)) then
    some (Bool.false, ())
  else
  Option.bind (L25_4 (n + 1) b l (0 : Int)) fun y6 =>
  match y6 with
    | .inl _ =>
      some (Bool.true, ())
    | .inr y8 =>
      some (y8.1.1, ())
noncomputable def isR_it : FnIt := ⟨25, [(false, (.slc .byte)), (false, (.slc .byte))], [(false, .bool)], 1, fun n x => isR n x.1 x.2.1⟩
theorem isR_ok (n : Nat) : FnOK Go.Proofs.Tryd.prog hint shT isR_it n :=
  FnOK.of (hk := fun β => (Known.mk [right_it, alive_it] [L25_4_it]).hk β) (sh := shT) (fun m _ => KnownOK.hook (((KnownOK.nil.fn alive_ok).fn right_ok).loop L25_4_ok L25_4_T_ok) m) (fun x => by kernel_rfl)

noncomputable def formR (n : Nat) (b : List UInt8) : Option (Int × (Int × Unit)) :=
  Option.bind (isR n b ((0 : UInt8) :: ((0 : UInt8) :: ((254 : UInt8) :: ((255 : UInt8) :: []))))) fun y0 =>
  bif y0.1 then
    some ((4 : Int), (4 : Int), ())
  else
  Option.bind (isR n b ((255 : UInt8) :: ((254 : UInt8) :: ((0 : UInt8) :: ((0 : UInt8) :: []))))) fun y1 =>
  bif y1.1 then
    some ((5 : Int), (4 : Int), ())
  else
  Option.bind (isR n b ((254 : UInt8) :: ((255 : UInt8) :: []))) fun y2 =>
  bif y2.1 then
    some ((2 : Int), (2 : Int), ())
  else
  Option.bind (isR n b ((255 : UInt8) :: ((254 : UInt8) :: []))) fun y3 =>
  bif y3.1 then
    some ((3 : Int), (2 : Int), ())
  else
  Option.bind (isR n b ((239 : UInt8) :: ((187 : UInt8) :: ((191 : UInt8) :: [])))) fun y4 =>
  bif y4.1 then
    some ((1 : Int), (3 : Int), ())
  else
  bif (Go.Iv.ilt (3 : Int) (len b)) then
    Option.bind (b[0]?) fun x5 =>
    bif (x5 == (0 : UInt8)) then
      Option.bind (b[1]?) fun x6 =>
      bif (x6 == (0 : UInt8)) then
        Option.bind (b[2]?) fun x7 =>
        bif (x7 == (0 : UInt8)) then
          Option.bind (b[3]?) fun x8 =>
          bif (x8 != (0 : UInt8)) then
            some ((4 : Int), (0 : Int), ())
          else
          bif (Go.Iv.ilt (3 : Int) (len b)) then
            Option.bind (b[0]?) fun x9 =>
            bif (x9 != (0 : UInt8)) then
              Option.bind (b[1]?) fun x10 =>
              bif (x10 == (0 : UInt8)) then
                Option.bind (b[2]?) fun x11 =>
                bif (x11 == (0 : UInt8)) then
                  Option.bind (b[3]?) fun x12 =>
                  bif (x12 == (0 : UInt8)) then
                    some ((5 : Int), (0 : Int), ())
                  else
                  bif (Go.Iv.ilt (1 : Int) (len b)) then
                    Option.bind (b[0]?) fun x13 =>
                    bif (x13 == (0 : UInt8)) then
                      Option.bind (b[1]?) fun x14 =>
                      bif (x14 != (0 : UInt8)) then
                        some ((2 : Int), (0 : Int), ())
                      else
                      bif (Go.Iv.ilt (1 : Int) (len b)) then
                        Option.bind (b[0]?) fun x15 =>
                        bif (x15 != (0 : UInt8)) then
                          Option.bind (b[1]?) fun x16 =>
                          bif (x16 == (0 : UInt8)) then
                            some ((3 : Int), (0 : Int), ())
                          else
                          some ((1 : Int), (0 : Int), ())
                        else
                        some ((1 : Int), (0 : Int), ())
                      else
                      some ((1 : Int), (0 : Int), ())
                    else
                    bif (Go.Iv.ilt (1 : Int) (len b)) then
                      Option.bind (b[0]?) fun x17 =>
                      bif (x17 != (0 : UInt8)) then
                        Option.bind (b[1]?) fun x18 =>
                        bif (x18 == (0 : UInt8)) then
                          some ((3 : Int), (0 : Int), ())
                        else
                        some ((1 : Int), (0 : Int), ())
                      else
                      some ((1 : Int), (0 : Int), ())
                    else
                    some ((1 : Int), (0 : Int), ())
                  else
                  bif (Go.Iv.ilt (1 : Int) (len b)) then
                    Option.bind (b[0]?) fun x19 =>
                    bif (x19 != (0 : UInt8)) then
                      Option.bind (b[1]?) fun x20 =>
                      bif (x20 == (0 : UInt8)) then
                        some ((3 : Int), (0 : Int), ())
                      else
                      some ((1 : Int), (0 : Int), ())
                    else
                    some ((1 : Int), (0 : Int), ())
                  else
                  some ((1 : Int), (0 : Int), ())
                else
                bif (Go.Iv.ilt (1 : Int) (len b)) then
                  Option.bind (b[0]?) fun x21 =>
                  bif (x21 == (0 : UInt8)) then
                    Option.bind (b[1]?) fun x22 =>
                    bif (x22 != (0 : UInt8)) then
                      some ((2 : Int), (0 : Int), ())
                    else
                    bif (Go.Iv.ilt (1 : Int) (len b)) then
                      Option.bind (b[0]?) fun x23 =>
                      bif (x23 != (0 : UInt8)) then
                        Option.bind (b[1]?) fun x24 =>
                        bif (x24 == (0 : UInt8)) then
                          some ((3 : Int), (0 : Int), ())
                        else
                        some ((1 : Int), (0 : Int), ())
                      else
                      some ((1 : Int), (0 : Int), ())
                    else
                    some ((1 : Int), (0 : Int), ())
                  else
                  bif (Go.Iv.ilt (1 : Int) (len b)) then
                    Option.bind (b[0]?) fun x25 =>
                    bif (x25 != (0 : UInt8)) then
                      Option.bind (b[1]?) fun x26 =>
                      bif (x26 == (0 : UInt8)) then
                        some ((3 : Int), (0 : Int), ())
                      else
                      some ((1 : Int), (0 : Int), ())
                    else
                    some ((1 : Int), (0 : Int), ())
                  else
                  some ((1 : Int), (0 : Int), ())
                else
                bif (Go.Iv.ilt (1 : Int) (len b)) then
                  Option.bind (b[0]?) fun x27 =>
                  bif (x27 != (0 : UInt8)) then
                    Option.bind (b[1]?) fun x28 =>
                    bif (x28 == (0 : UInt8)) then
                      some ((3 : Int), (0 : Int), ())
                    else
                    some ((1 : Int), (0 : Int), ())
                  else
                  some ((1 : Int), (0 : Int), ())
                else
                some ((1 : Int), (0 : Int), ())
              else
              bif (Go.Iv.ilt (1 : Int) (len b)) then
                Option.bind (b[0]?) fun x29 =>
                bif (x29 == (0 : UInt8)) then
                  Option.bind (b[1]?) fun x30 =>
                  bif (x30 != (0 : UInt8)) then
                    some ((2 : Int), (0 : Int), ())
                  else
                  bif (Go.Iv.ilt (1 : Int) (len b)) then
                    Option.bind (b[0]?) fun x31 =>
                    bif (x31 != (0 : UInt8)) then
                      Option.bind (b[1]?) fun x32 =>
                      bif (x32 == (0 : UInt8)) then
                        some ((3 : Int), (0 : Int), ())
                      else
                      some ((1 : Int), (0 : Int), ())
                    else
                    some ((1 : Int), (0 : Int), ())
                  else
                  some ((1 : Int), (0 : Int), ())
                else
                bif (Go.Iv.ilt (1 : Int) (len b)) then
                  Option.bind (b[0]?) fun x33 =>
                  bif (x33 != (0 : UInt8)) then
                    Option.bind (b[1]?) fun x34 =>
                    bif (x34 == (0 : UInt8)) then
                      some ((3 : Int), (0 : Int), ())
                    else
                    some ((1 : Int), (0 : Int), ())
                  else
                  some ((1 : Int), (0 : Int), ())
                else
                some ((1 : Int), (0 : Int), ())
              else
              bif (Go.Iv.ilt (1 : Int) (len b)) then
                Option.bind (b[0]?) fun x35 =>
                bif (x35 != (0 : UInt8)) then
                  Option.bind (b[1]?) fun x36 =>
                  bif (x36 == (0 : UInt8)) then
                    some ((3 : Int), (0 : Int), ())
                  else
                  some ((1 : Int), (0 : Int), ())
                else
                some ((1 : Int), (0 : Int), ())
              else
              some ((1 : Int), (0 : Int), ())
            else
            bif (Go.Iv.ilt (1 : Int) (len b)) then
              Option.bind (b[0]?) fun x37 =>
              bif (x37 == (0 : UInt8)) then
                Option.bind (b[1]?) fun x38 =>
                bif (x38 != (0 : UInt8)) then
                  some ((2 : Int), (0 : Int), ())
                else
                bif (Go.Iv.ilt (1 : Int) (len b)) then
                  Option.bind (b[0]?) fun x39 =>
                  bif (x39 != (0 : UInt8)) then
                    Option.bind (b[1]?) fun x40 =>
                    bif (x40 == (0 : UInt8)) then
                      some ((3 : Int), (0 : Int), ())
                    else
                    some ((1 : Int), (0 : Int), ())
                  else
                  some ((1 : Int), (0 : Int), ())
                else
                some ((1 : Int), (0 : Int), ())
              else
              bif (Go.Iv.ilt (1 : Int) (len b)) then
                Option.bind (b[0]?) fun x41 =>
                bif (x41 != (0 : UInt8)) then
                  Option.bind (b[1]?) fun x42 =>
                  bif (x42 == (0 : UInt8)) then
                    some ((3 : Int), (0 : Int), ())
                  else
                  some ((1 : Int), (0 : Int), ())
                else
                some ((1 : Int), (0 : Int), ())
              else
              some ((1 : Int), (0 : Int), ())
            else
            bif (Go.Iv.ilt (1 : Int) (len b)) then
              Option.bind (b[0]?) fun x43 =>
              bif (x43 != (0 : UInt8)) then
                Option.bind (b[1]?) fun x44 =>
                bif (x44 == (0 : UInt8)) then
                  some ((3 : Int), (0 : Int), ())
                else
                some ((1 : Int), (0 : Int), ())
              else
              some ((1 : Int), (0 : Int), ())
            else
            some ((1 : Int), (0 : Int), ())
          else
          bif (Go.Iv.ilt (1 : Int) (len b)) then
            Option.bind (b[0]?) fun x45 =>
            bif (x45 == (0 : UInt8)) then
              Option.bind (b[1]?) fun x46 =>
              bif (x46 != (0 : UInt8)) then
                some ((2 : Int), (0 : Int), ())
              else
              bif (Go.Iv.ilt (1 : Int) (len b)) then
                Option.bind (b[0]?) fun x47 =>
                bif (x47 != (0 : UInt8)) then
                  Option.bind (b[1]?) fun x48 =>
                  bif (x48 == (0 : UInt8)) then
                    some ((3 : Int), (0 : Int), ())
                  else
                  some ((1 : Int), (0 : Int), ())
                else
                some ((1 : Int), (0 : Int), ())
              else
              some ((1 : Int), (0 : Int), ())
            else
            bif (Go.Iv.ilt (1 : Int) (len b)) then
              Option.bind (b[0]?) fun x49 =>
              bif (x49 != (0 : UInt8)) then
                Option.bind (b[1]?) fun x50 =>
                bif (x50 == (0 : UInt8)) then
                  some ((3 : Int), (0 : Int), ())
                else
                some ((1 : Int), (0 : Int), ())
              else
              some ((1 : Int), (0 : Int), ())
            else
            some ((1 : Int), (0 : Int), ())
          else
          bif (Go.Iv.ilt (1 : Int) (len b)) then
            Option.bind (b[0]?) fun x51 =>
            bif (x51 != (0 : UInt8)) then
              Option.bind (b[1]?) fun x52 =>
              bif (x52 == (0 : UInt8)) then
                some ((3 : Int), (0 : Int), ())
              else
              some ((1 : Int), (0 : Int), ())
            else
            some ((1 : Int), (0 : Int), ())
          else
          some ((1 : Int), (0 : Int), ())
        else
        bif (Go.Iv.ilt (3 : Int) (len b)) then
          Option.bind (b[0]?) fun x53 =>
          bif (x53 != (0 : UInt8)) then
            Option.bind (b[1]?) fun x54 =>
            bif (x54 == (0 : UInt8)) then
              Option.bind (b[2]?) fun x55 =>
              bif (x55 == (0 : UInt8)) then
                Option.bind (b[3]?) fun x56 =>
                bif (x56 == (0 : UInt8)) then
                  some ((5 : Int), (0 : Int), ())
                else
                bif (Go.Iv.ilt (1 : Int) (len b)) then
                  Option.bind (b[0]?) fun x57 =>
                  bif (x57 == (0 : UInt8)) then
                    Option.bind (b[1]?) fun x58 =>
                    bif (x58 != (0 : UInt8)) then
                      some ((2 : Int), (0 : Int), ())
                    else
                    bif (Go.Iv.ilt (1 : Int) (len b)) then
                      Option.bind (b[0]?) fun x59 =>
                      bif (x59 != (0 : UInt8)) then
                        Option.bind (b[1]?) fun x60 =>
                        bif (x60 == (0 : UInt8)) then
                          some ((3 : Int), (0 : Int), ())
                        else
                        some ((1 : Int), (0 : Int), ())
                      else
                      some ((1 : Int), (0 : Int), ())
                    else
                    some ((1 : Int), (0 : Int), ())
                  else
                  bif (Go.Iv.ilt (1 : Int) (len b)) then
                    Option.bind (b[0]?) fun x61 =>
                    bif (x61 != (0 : UInt8)) then
                      Option.bind (b[1]?) fun x62 =>
                      bif (x62 == (0 : UInt8)) then
                        some ((3 : Int), (0 : Int), ())
                      else
                      some ((1 : Int), (0 : Int), ())
                    else
                    some ((1 : Int), (0 : Int), ())
                  else
                  some ((1 : Int), (0 : Int), ())
                else
                bif (Go.Iv.ilt (1 : Int) (len b)) then
                  Option.bind (b[0]?) fun x63 =>
                  bif (x63 != (0 : UInt8)) then
                    Option.bind (b[1]?) fun x64 =>
                    bif (x64 == (0 : UInt8)) then
                      some ((3 : Int), (0 : Int), ())
                    else
                    some ((1 : Int), (0 : Int), ())
                  else
                  some ((1 : Int), (0 : Int), ())
                else
                some ((1 : Int), (0 : Int), ())
              else
              bif (Go.Iv.ilt (1 : Int) (len b)) then
                Option.bind (b[0]?) fun x65 =>
                bif (x65 == (0 : UInt8)) then
                  Option.bind (b[1]?) fun x66 =>
                  bif (x66 != (0 : UInt8)) then
                    some ((2 : Int), (0 : Int), ())
                  else
                  bif (Go.Iv.ilt (1 : Int) (len b)) then
                    Option.bind (b[0]?) fun x67 =>
                    bif (x67 != (0 : UInt8)) then
                      Option.bind (b[1]?) fun x68 =>
                      bif (x68 == (0 : UInt8)) then
                        some ((3 : Int), (0 : Int), ())
                      else
                      some ((1 : Int), (0 : Int), ())
                    else
                    some ((1 : Int), (0 : Int), ())
                  else
                  some ((1 : Int), (0 : Int), ())
                else
                bif (Go.Iv.ilt (1 : Int) (len b)) then
                  Option.bind (b[0]?) fun x69 =>
                  bif (x69 != (0 : UInt8)) then
                    Option.bind (b[1]?) fun x70 =>
                    bif (x70 == (0 : UInt8)) then
                      some ((3 : Int), (0 : Int), ())
                    else
                    some ((1 : Int), (0 : Int), ())
                  else
                  some ((1 : Int), (0 : Int), ())
                else
                some ((1 : Int), (0 : Int), ())
              else
              bif (Go.Iv.ilt (1 : Int) (len b)) then
                Option.bind (b[0]?) fun x71 =>
                bif (x71 != (0 : UInt8)) then
                  Option.bind (b[1]?) fun x72 =>
                  bif (x72 == (0 : UInt8)) then
                    some ((3 : Int), (0 : Int), ())
                  else
                  some ((1 : Int), (0 : Int), ())
                else
                some ((1 : Int), (0 : Int), ())
              else
              some ((1 : Int), (0 : Int), ())
            else
            bif (Go.Iv.ilt (1 : Int) (len b)) then
              Option.bind (b[0]?) fun x73 =>
              bif (x73 == (0 : UInt8)) then
                Option.bind (b[1]?) fun x74 =>
                bif (x74 != (0 : UInt8)) then
                  some ((2 : Int), (0 : Int), ())
                else
                bif (Go.Iv.ilt (1 : Int) (len b)) then
                  Option.bind (b[0]?) fun x75 =>
                  bif (x75 != (0 : UInt8)) then
                    Option.bind (b[1]?) fun x76 =>
                    bif (x76 == (0 : UInt8)) then
                      some ((3 : Int), (0 : Int), ())
                    else
                    some ((1 : Int), (0 : Int), ())
                  else
                  some ((1 : Int), (0 : Int), ())
                else
                some ((1 : Int), (0 : Int), ())
              else
              bif (Go.Iv.ilt (1 : Int) (len b)) then
                Option.bind (b[0]?) fun x77 =>
                bif (x77 != (0 : UInt8)) then
                  Option.bind (b[1]?) fun x78 =>
                  bif (x78 == (0 : UInt8)) then
                    some ((3 : Int), (0 : Int), ())
                  else
                  some ((1 : Int), (0 : Int), ())
                else
                some ((1 : Int), (0 : Int), ())
              else
              some ((1 : Int), (0 : Int), ())
            else
            bif (Go.Iv.ilt (1 : Int) (len b)) then
              Option.bind (b[0]?) fun x79 =>
              bif (x79 != (0 : UInt8)) then
                Option.bind (b[1]?) fun x80 =>
                bif (x80 == (0 : UInt8)) then
                  some ((3 : Int), (0 : Int), ())
                else
                some ((1 : Int), (0 : Int), ())
              else
              some ((1 : Int), (0 : Int), ())
            else
            some ((1 : Int), (0 : Int), ())
          else
          bif (Go.Iv.ilt (1 : Int) (len b)) then
            Option.bind (b[0]?) fun x81 =>
            bif (x81 == (0 : UInt8)) then
              Option.bind (b[1]?) fun x82 =>
              bif (x82 != (0 : UInt8)) then
                some ((2 : Int), (0 : Int), ())
              else
              bif (Go.Iv.ilt (1 : Int) (len b)) then
                Option.bind (b[0]?) fun x83 =>
                bif (x83 != (0 : UInt8)) then
                  Option.bind (b[1]?) fun x84 =>
                  bif (x84 == (0 : UInt8)) then
                    some ((3 : Int), (0 : Int), ())
                  else
                  some ((1 : Int), (0 : Int), ())
                else
                some ((1 : Int), (0 : Int), ())
              else
              some ((1 : Int), (0 : Int), ())
            else
            bif (Go.Iv.ilt (1 : Int) (len b)) then
              Option.bind (b[0]?) fun x85 =>
              bif (x85 != (0 : UInt8)) then
                Option.bind (b[1]?) fun x86 =>
                bif (x86 == (0 : UInt8)) then
                  some ((3 : Int), (0 : Int), ())
                else
                some ((1 : Int), (0 : Int), ())
              else
              some ((1 : Int), (0 : Int), ())
            else
            some ((1 : Int), (0 : Int), ())
          else
          bif (Go.Iv.ilt (1 : Int) (len b)) then
            Option.bind (b[0]?) fun x87 =>
            bif (x87 != (0 : UInt8)) then
              Option.bind (b[1]?) fun x88 =>
              bif (x88 == (0 : UInt8)) then
                some ((3 : Int), (0 : Int), ())
              else
              some ((1 : Int), (0 : Int), ())
            else
            some ((1 : Int), (0 : Int), ())
          else
          some ((1 : Int), (0 : Int), ())
        else
        bif (Go.Iv.ilt (1 : Int) (len b)) then
          Option.bind (b[0]?) fun x89 =>
          bif (x89 == (0 : UInt8)) then
            Option.bind (b[1]?) fun x90 =>
            bif (x90 != (0 : UInt8)) then
              some ((2 : Int), (0 : Int), ())
            else
            bif (Go.Iv.ilt (1 : Int) (len b)) then
              Option.bind (b[0]?) fun x91 =>
              bif (x91 != (0 : UInt8)) then
                Option.bind (b[1]?) fun x92 =>
                bif (x92 == (0 : UInt8)) then
                  some ((3 : Int), (0 : Int), ())
                else
                some ((1 : Int), (0 : Int), ())
              else
              some ((1 : Int), (0 : Int), ())
            else
            some ((1 : Int), (0 : Int), ())
          else
          bif (Go.Iv.ilt (1 : Int) (len b)) then
            Option.bind (b[0]?) fun x93 =>
            bif (x93 != (0 : UInt8)) then
              Option.bind (b[1]?) fun x94 =>
              bif (x94 == (0 : UInt8)) then
                some ((3 : Int), (0 : Int), ())
              else
              some ((1 : Int), (0 : Int), ())
            else
            some ((1 : Int), (0 : Int), ())
          else
          some ((1 : Int), (0 : Int), ())
        else
        bif (Go.Iv.ilt (1 : Int) (len b)) then
          Option.bind (b[0]?) fun x95 =>
          bif (x95 != (0 : UInt8)) then
            Option.bind (b[1]?) fun x96 =>
            bif (x96 == (0 : UInt8)) then
              some ((3 : Int), (0 : Int), ())
            else
            some ((1 : Int), (0 : Int), ())
          else
          some ((1 : Int), (0 : Int), ())
        else
        some ((1 : Int), (0 : Int), ())
      else
      bif (Go.Iv.ilt (3 : Int) (len b)) then
        Option.bind (b[0]?) fun x97 =>
        bif (x97 != (0 : UInt8)) then
          Option.bind (b[1]?) fun x98 =>
          bif (x98 == (0 : UInt8)) then
            Option.bind (b[2]?) fun x99 =>
            bif (x99 == (0 : UInt8)) then
              Option.bind (b[3]?) fun x100 =>
              bif (x100 == (0 : UInt8)) then
                some ((5 : Int), (0 : Int), ())
              else
              bif (Go.Iv.ilt (1 : Int) (len b)) then
                Option.bind (b[0]?) fun x101 =>
                bif (x101 == (0 : UInt8)) then
                  Option.bind (b[1]?) fun x102 =>
                  bif (x102 != (0 : UInt8)) then
                    some ((2 : Int), (0 : Int), ())
                  else
                  bif (Go.Iv.ilt (1 : Int) (len b)) then
                    Option.bind (b[0]?) fun x103 =>
                    bif (x103 != (0 : UInt8)) then
                      Option.bind (b[1]?) fun x104 =>
                      bif (x104 == (0 : UInt8)) then
                        some ((3 : Int), (0 : Int), ())
                      else
                      some ((1 : Int), (0 : Int), ())
                    else
                    some ((1 : Int), (0 : Int), ())
                  else
                  some ((1 : Int), (0 : Int), ())
                else
                bif (Go.Iv.ilt (1 : Int) (len b)) then
                  Option.bind (b[0]?) fun x105 =>
                  bif (x105 != (0 : UInt8)) then
                    Option.bind (b[1]?) fun x106 =>
                    bif (x106 == (0 : UInt8)) then
                      some ((3 : Int), (0 : Int), ())
                    else
                    some ((1 : Int), (0 : Int), ())
                  else
                  some ((1 : Int), (0 : Int), ())
                else
                some ((1 : Int), (0 : Int), ())
              else
              bif (Go.Iv.ilt (1 : Int) (len b)) then
                Option.bind (b[0]?) fun x107 =>
                bif (x107 != (0 : UInt8)) then
                  Option.bind (b[1]?) fun x108 =>
                  bif (x108 == (0 : UInt8)) then
                    some ((3 : Int), (0 : Int), ())
                  else
                  some ((1 : Int), (0 : Int), ())
                else
                some ((1 : Int), (0 : Int), ())
              else
              some ((1 : Int), (0 : Int), ())
            else
            bif (Go.Iv.ilt (1 : Int) (len b)) then
              Option.bind (b[0]?) fun x109 =>
              bif (x109 == (0 : UInt8)) then
                Option.bind (b[1]?) fun x110 =>
                bif (x110 != (0 : UInt8)) then
                  some ((2 : Int), (0 : Int), ())
                else
                bif (Go.Iv.ilt (1 : Int) (len b)) then
                  Option.bind (b[0]?) fun x111 =>
                  bif (x111 != (0 : UInt8)) then
                    Option.bind (b[1]?) fun x112 =>
                    bif (x112 == (0 : UInt8)) then
                      some ((3 : Int), (0 : Int), ())
                    else
                    some ((1 : Int), (0 : Int), ())
                  else
                  some ((1 : Int), (0 : Int), ())
                else
                some ((1 : Int), (0 : Int), ())
              else
              bif (Go.Iv.ilt (1 : Int) (len b)) then
                Option.bind (b[0]?) fun x113 =>
                bif (x113 != (0 : UInt8)) then
                  Option.bind (b[1]?) fun x114 =>
                  bif (x114 == (0 : UInt8)) then
                    some ((3 : Int), (0 : Int), ())
                  else
                  some ((1 : Int), (0 : Int), ())
                else
                some ((1 : Int), (0 : Int), ())
              else
              some ((1 : Int), (0 : Int), ())
            else
            bif (Go.Iv.ilt (1 : Int) (len b)) then
              Option.bind (b[0]?) fun x115 =>
              bif (x115 != (0 : UInt8)) then
                Option.bind (b[1]?) fun x116 =>
                bif (x116 == (0 : UInt8)) then
                  some ((3 : Int), (0 : Int), ())
                else
                some ((1 : Int), (0 : Int), ())
              else
              some ((1 : Int), (0 : Int), ())
            else
            some ((1 : Int), (0 : Int), ())
          else
          bif (Go.Iv.ilt (1 : Int) (len b)) then
            Option.bind (b[0]?) fun x117 =>
            bif (x117 == (0 : UInt8)) then
              Option.bind (b[1]?) fun x118 =>
              bif (x118 != (0 : UInt8)) then
                some ((2 : Int), (0 : Int), ())
              else
              bif (Go.Iv.ilt (1 : Int) (len b)) then
                Option.bind (b[0]?) fun x119 =>
                bif (x119 != (0 : UInt8)) then
                  Option.bind (b[1]?) fun x120 =>
                  bif (x120 == (0 : UInt8)) then
                    some ((3 : Int), (0 : Int), ())
                  else
                  some ((1 : Int), (0 : Int), ())
                else
                some ((1 : Int), (0 : Int), ())
              else
              some ((1 : Int), (0 : Int), ())
            else
            bif (Go.Iv.ilt (1 : Int) (len b)) then
              Option.bind (b[0]?) fun x121 =>
              bif (x121 != (0 : UInt8)) then
                Option.bind (b[1]?) fun x122 =>
                bif (x122 == (0 : UInt8)) then
                  some ((3 : Int), (0 : Int), ())
                else
                some ((1 : Int), (0 : Int), ())
              else
              some ((1 : Int), (0 : Int), ())
            else
            some ((1 : Int), (0 : Int), ())
          else
          bif (Go.Iv.ilt (1 : Int) (len b)) then
            Option.bind (b[0]?) fun x123 =>
            bif (x123 != (0 : UInt8)) then
              Option.bind (b[1]?) fun x124 =>
              bif (x124 == (0 : UInt8)) then
                some ((3 : Int), (0 : Int), ())
              else
              some ((1 : Int), (0 : Int), ())
            else
            some ((1 : Int), (0 : Int), ())
          else
          some ((1 : Int), (0 : Int), ())
        else
        bif (Go.Iv.ilt (1 : Int) (len b)) then
          Option.bind (b[0]?) fun x125 =>
          bif (x125 == (0 : UInt8)) then
            Option.bind (b[1]?) fun x126 =>
            bif (x126 != (0 : UInt8)) then
              some ((2 : Int), (0 : Int), ())
            else
            bif (Go.Iv.ilt (1 : Int) (len b)) then
              Option.bind (b[0]?) fun x127 =>
              bif (x127 != (0 : UInt8)) then
                Option.bind (b[1]?) fun x128 =>
                bif (x128 == (0 : UInt8)) then
                  some ((3 : Int), (0 : Int), ())
                else
                some ((1 : Int), (0 : Int), ())
              else
              some ((1 : Int), (0 : Int), ())
            else
            some ((1 : Int), (0 : Int), ())
          else
          bif (Go.Iv.ilt (1 : Int) (len b)) then
            Option.bind (b[0]?) fun x129 =>
            bif (x129 != (0 : UInt8)) then
              Option.bind (b[1]?) fun x130 =>
              bif (x130 == (0 : UInt8)) then
                some ((3 : Int), (0 : Int), ())
              else
              some ((1 : Int), (0 : Int), ())
            else
            some ((1 : Int), (0 : Int), ())
          else
          some ((1 : Int), (0 : Int), ())
        else
        bif (Go.Iv.ilt (1 : Int) (len b)) then
          Option.bind (b[0]?) fun x131 =>
          bif (x131 != (0 : UInt8)) then
            Option.bind (b[1]?) fun x132 =>
            bif (x132 == (0 : UInt8)) then
              some ((3 : Int), (0 : Int), ())
            else
            some ((1 : Int), (0 : Int), ())
          else
          some ((1 : Int), (0 : Int), ())
        else
        some ((1 : Int), (0 : Int), ())
      else
      bif (Go.Iv.ilt (1 : Int) (len b)) then
        Option.bind (b[0]?) fun x133 =>
        bif (x133 == (0 : UInt8)) then
          Option.bind (b[1]?) fun x134 =>
          bif (x134 != (0 : UInt8)) then
            some ((2 : Int), (0 : Int), ())
          else
          bif (Go.Iv.ilt (1 : Int) (len b)) then
            Option.bind (b[0]?) fun x135 =>
            bif (x135 != (0 : UInt8)) then
              Option.bind (b[1]?) fun x136 =>
              bif (x136 == (0 : UInt8)) then
                some ((3 : Int), (0 : Int), ())
              else
              some ((1 : Int), (0 : Int), ())
            else
            some ((1 : Int), (0 : Int), ())
          else
          some ((1 : Int), (0 : Int), ())
        else
        bif (Go.Iv.ilt (1 : Int) (len b)) then
          Option.bind (b[0]?) fun x137 =>
          bif (x137 != (0 : UInt8)) then
            Option.bind (b[1]?) fun x138 =>
            bif (x138 == (0 : UInt8)) then
              some ((3 : Int), (0 : Int), ())
            else
            some ((1 : Int), (0 : Int), ())
          else
          some ((1 : Int), (0 : Int), ())
        else
        some ((1 : Int), (0 : Int), ())
      else
      bif (Go.Iv.ilt (1 : Int) (len b)) then
        Option.bind (b[0]?) fun x139 =>
        bif (x139 != (0 : UInt8)) then
          Option.bind (b[1]?) fun x140 =>
          bif (x140 == (0 : UInt8)) then
            some ((3 : Int), (0 : Int), ())
          else
          some ((1 : Int), (0 : Int), ())
        else
        some ((1 : Int), (0 : Int), ())
      else
      some ((1 : Int), (0 : Int), ())
    else
    bif (Go.Iv.ilt (3 : Int) (len b)) then
      Option.bind (b[0]?) fun x141 =>
      bif (x141 != (0 : UInt8)) then
        Option.bind (b[1]?) fun x142 =>
        bif (x142 == (0 : UInt8)) then
          Option.bind (b[2]?) fun x143 =>
          bif (x143 == (0 : UInt8)) then
            Option.bind (b[3]?) fun x144 =>
            bif (x144 == (0 : UInt8)) then
              some ((5 : Int), (0 : Int), ())
            else
            bif (Go.Iv.ilt (1 : Int) (len b)) then
              Option.bind (b[0]?) fun x145 =>
              bif (x145 == (0 : UInt8)) then
                Option.bind (b[1]?) fun x146 =>
                bif (x146 != (0 : UInt8)) then
                  some ((2 : Int), (0 : Int), ())
                else
                bif (Go.Iv.ilt (1 : Int) (len b)) then
                  Option.bind (b[0]?) fun x147 =>
                  bif (x147 != (0 : UInt8)) then
                    Option.bind (b[1]?) fun x148 =>
                    bif (x148 == (0 : UInt8)) then
                      some ((3 : Int), (0 : Int), ())
                    else
                    some ((1 : Int), (0 : Int), ())
                  else
                  some ((1 : Int), (0 : Int), ())
                else
                some ((1 : Int), (0 : Int), ())
              else
              bif (Go.Iv.ilt (1 : Int) (len b)) then
                Option.bind (b[0]?) fun x149 =>
                bif (x149 != (0 : UInt8)) then
                  Option.bind (b[1]?) fun x150 =>
                  bif (x150 == (0 : UInt8)) then
                    some ((3 : Int), (0 : Int), ())
                  else
                  some ((1 : Int), (0 : Int), ())
                else
                some ((1 : Int), (0 : Int), ())
              else
              some ((1 : Int), (0 : Int), ())
            else
            bif (Go.Iv.ilt (1 : Int) (len b)) then
              Option.bind (b[0]?) fun x151 =>
              bif (x151 != (0 : UInt8)) then
                Option.bind (b[1]?) fun x152 =>
                bif (x152 == (0 : UInt8)) then
                  some ((3 : Int), (0 : Int), ())
                else
                some ((1 : Int), (0 : Int), ())
              else
              some ((1 : Int), (0 : Int), ())
            else
            some ((1 : Int), (0 : Int), ())
          else
          bif (Go.Iv.ilt (1 : Int) (len b)) then
            Option.bind (b[0]?) fun x153 =>
            bif (x153 == (0 : UInt8)) then
              Option.bind (b[1]?) fun x154 =>
              bif (x154 != (0 : UInt8)) then
                some ((2 : Int), (0 : Int), ())
              else
              bif (Go.Iv.ilt (1 : Int) (len b)) then
                Option.bind (b[0]?) fun x155 =>
                bif (x155 != (0 : UInt8)) then
                  Option.bind (b[1]?) fun x156 =>
                  bif (x156 == (0 : UInt8)) then
                    some ((3 : Int), (0 : Int), ())
                  else
                  some ((1 : Int), (0 : Int), ())
                else
                some ((1 : Int), (0 : Int), ())
              else
              some ((1 : Int), (0 : Int), ())
            else
            bif (Go.Iv.ilt (1 : Int) (len b)) then
              Option.bind (b[0]?) fun x157 =>
              bif (x157 != (0 : UInt8)) then
                Option.bind (b[1]?) fun x158 =>
                bif (x158 == (0 : UInt8)) then
                  some ((3 : Int), (0 : Int), ())
                else
                some ((1 : Int), (0 : Int), ())
              else
              some ((1 : Int), (0 : Int), ())
            else
            some ((1 : Int), (0 : Int), ())
          else
          bif (Go.Iv.ilt (1 : Int) (len b)) then
            Option.bind (b[0]?) fun x159 =>
            bif (x159 != (0 : UInt8)) then
              Option.bind (b[1]?) fun x160 =>
              bif (x160 == (0 : UInt8)) then
                some ((3 : Int), (0 : Int), ())
              else
              some ((1 : Int), (0 : Int), ())
            else
            some ((1 : Int), (0 : Int), ())
          else
          some ((1 : Int), (0 : Int), ())
        else
        bif (Go.Iv.ilt (1 : Int) (len b)) then
          Option.bind (b[0]?) fun x161 =>
          bif (x161 == (0 : UInt8)) then
            Option.bind (b[1]?) fun x162 =>
            bif (x162 != (0 : UInt8)) then
              some ((2 : Int), (0 : Int), ())
            else
            bif (Go.Iv.ilt (1 : Int) (len b)) then
              Option.bind (b[0]?) fun x163 =>
              bif (x163 != (0 : UInt8)) then
                Option.bind (b[1]?) fun x164 =>
                bif (x164 == (0 : UInt8)) then
                  some ((3 : Int), (0 : Int), ())
                else
                some ((1 : Int), (0 : Int), ())
              else
              some ((1 : Int), (0 : Int), ())
            else
            some ((1 : Int), (0 : Int), ())
          else
          bif (Go.Iv.ilt (1 : Int) (len b)) then
            Option.bind (b[0]?) fun x165 =>
            bif (x165 != (0 : UInt8)) then
              Option.bind (b[1]?) fun x166 =>
              bif (x166 == (0 : UInt8)) then
                some ((3 : Int), (0 : Int), ())
              else
              some ((1 : Int), (0 : Int), ())
            else
            some ((1 : Int), (0 : Int), ())
          else
          some ((1 : Int), (0 : Int), ())
        else
        bif (Go.Iv.ilt (1 : Int) (len b)) then
          Option.bind (b[0]?) fun x167 =>
          bif (x167 != (0 : UInt8)) then
            Option.bind (b[1]?) fun x168 =>
            bif (x168 == (0 : UInt8)) then
              some ((3 : Int), (0 : Int), ())
            else
            some ((1 : Int), (0 : Int), ())
          else
          some ((1 : Int), (0 : Int), ())
        else
        some ((1 : Int), (0 : Int), ())
      else
      bif (Go.Iv.ilt (1 : Int) (len b)) then
        Option.bind (b[0]?) fun x169 =>
        bif (x169 == (0 : UInt8)) then
          Option.bind (b[1]?) fun x170 =>
          bif (x170 != (0 : UInt8)) then
            some ((2 : Int), (0 : Int), ())
          else
          bif (Go.Iv.ilt (1 : Int) (len b)) then
            Option.bind (b[0]?) fun x171 =>
            bif (x171 != (0 : UInt8)) then
              Option.bind (b[1]?) fun x172 =>
              bif (x172 == (0 : UInt8)) then
                some ((3 : Int), (0 : Int), ())
              else
              some ((1 : Int), (0 : Int), ())
            else
            some ((1 : Int), (0 : Int), ())
          else
          some ((1 : Int), (0 : Int), ())
        else
        bif (Go.Iv.ilt (1 : Int) (len b)) then
          Option.bind (b[0]?) fun x173 =>
          bif (x173 != (0 : UInt8)) then
            Option.bind (b[1]?) fun x174 =>
            bif (x174 == (0 : UInt8)) then
              some ((3 : Int), (0 : Int), ())
            else
            some ((1 : Int), (0 : Int), ())
          else
          some ((1 : Int), (0 : Int), ())
        else
        some ((1 : Int), (0 : Int), ())
      else
      bif (Go.Iv.ilt (1 : Int) (len b)) then
        Option.bind (b[0]?) fun x175 =>
        bif (x175 != (0 : UInt8)) then
          Option.bind (b[1]?) fun x176 =>
          bif (x176 == (0 : UInt8)) then
            some ((3 : Int), (0 : Int), ())
          else
          some ((1 : Int), (0 : Int), ())
        else
        some ((1 : Int), (0 : Int), ())
      else
      some ((1 : Int), (0 : Int), ())
    else
    bif (Go.Iv.ilt (1 : Int) (len b)) then
      Option.bind (b[0]?) fun x177 =>
      bif (x177 == (0 : UInt8)) then
        Option.bind (b[1]?) fun x178 =>
        bif (x178 != (0 : UInt8)) then
          some ((2 : Int), (0 : Int), ())
        else
        bif (Go.Iv.ilt (1 : Int) (len b)) then
          Option.bind (b[0]?) fun x179 =>
          bif (x179 != (0 : UInt8)) then
            Option.bind (b[1]?) fun x180 =>
            bif (x180 == (0 : UInt8)) then
              some ((3 : Int), (0 : Int), ())
            else
            some ((1 : Int), (0 : Int), ())
          else
          some ((1 : Int), (0 : Int), ())
        else
        some ((1 : Int), (0 : Int), ())
      else
      bif (Go.Iv.ilt (1 : Int) (len b)) then
        Option.bind (b[0]?) fun x181 =>
        bif (x181 != (0 : UInt8)) then
          Option.bind (b[1]?) fun x182 =>
          bif (x182 == (0 : UInt8)) then
            some ((3 : Int), (0 : Int), ())
          else
          some ((1 : Int), (0 : Int), ())
        else
        some ((1 : Int), (0 : Int), ())
      else
      some ((1 : Int), (0 : Int), ())
    else
    bif (Go.Iv.ilt (1 : Int) (len b)) then
      Option.bind (b[0]?) fun x183 =>
      bif (x183 != (0 : UInt8)) then
        Option.bind (b[1]?) fun x184 =>
        bif (x184 == (0 : UInt8)) then
          some ((3 : Int), (0 : Int), ())
        else
        some ((1 : Int), (0 : Int), ())
      else
      some ((1 : Int), (0 : Int), ())
    else
    some ((1 : Int), (0 : Int), ())
  else
  bif (Go.Iv.ilt (3 : Int) (len b)) then
    Option.bind (b[0]?) fun x185 =>
    bif (x185 != (0 : UInt8)) then
      Option.bind (b[1]?) fun x186 =>
      bif (x186 == (0 : UInt8)) then
        Option.bind (b[2]?) fun x187 =>
        bif (x187 == (0 : UInt8)) then
          Option.bind (b[3]?) fun x188 =>
          bif (x188 == (0 : UInt8)) then
            some ((5 : Int), (0 : Int), ())
          else
          bif (Go.Iv.ilt (1 : Int) (len b)) then
            Option.bind (b[0]?) fun x189 =>
            bif (x189 == (0 : UInt8)) then
              Option.bind (b[1]?) fun x190 =>
              bif (x190 != (0 : UInt8)) then
                some ((2 : Int), (0 : Int), ())
              else
              bif (Go.Iv.ilt (1 : Int) (len b)) then
                Option.bind (b[0]?) fun x191 =>
                bif (x191 != (0 : UInt8)) then
                  Option.bind (b[1]?) fun x192 =>
                  bif (x192 == (0 : UInt8)) then
                    some ((3 : Int), (0 : Int), ())
                  else
                  some ((1 : Int), (0 : Int), ())
                else
                some ((1 : Int), (0 : Int), ())
              else
              some ((1 : Int), (0 : Int), ())
            else
            bif (Go.Iv.ilt (1 : Int) (len b)) then
              Option.bind (b[0]?) fun x193 =>
              bif (x193 != (0 : UInt8)) then
                Option.bind (b[1]?) fun x194 =>
                bif (x194 == (0 : UInt8)) then
                  some ((3 : Int), (0 : Int), ())
                else
                some ((1 : Int), (0 : Int), ())
              else
              some ((1 : Int), (0 : Int), ())
            else
            some ((1 : Int), (0 : Int), ())
          else
          bif (Go.Iv.ilt (1 : Int) (len b)) then
            Option.bind (b[0]?) fun x195 =>
            bif (x195 != (0 : UInt8)) then
              Option.bind (b[1]?) fun x196 =>
              bif (x196 == (0 : UInt8)) then
                some ((3 : Int), (0 : Int), ())
              else
              some ((1 : Int), (0 : Int), ())
            else
            some ((1 : Int), (0 : Int), ())
          else
          some ((1 : Int), (0 : Int), ())
        else
        bif (Go.Iv.ilt (1 : Int) (len b)) then
          Option.bind (b[0]?) fun x197 =>
          bif (x197 == (0 : UInt8)) then
            Option.bind (b[1]?) fun x198 =>
            bif (x198 != (0 : UInt8)) then
              some ((2 : Int), (0 : Int), ())
            else
            bif (Go.Iv.ilt (1 : Int) (len b)) then
              Option.bind (b[0]?) fun x199 =>
              bif (x199 != (0 : UInt8)) then
                Option.bind (b[1]?) fun x200 =>
                bif (x200 == (0 : UInt8)) then
                  some ((3 : Int), (0 : Int), ())
                else
                some ((1 : Int), (0 : Int), ())
              else
              some ((1 : Int), (0 : Int), ())
            else
            some ((1 : Int), (0 : Int), ())
          else
          bif (Go.Iv.ilt (1 : Int) (len b)) then
            Option.bind (b[0]?) fun x201 =>
            bif (x201 != (0 : UInt8)) then
              Option.bind (b[1]?) fun x202 =>
              bif (x202 == (0 : UInt8)) then
                some ((3 : Int), (0 : Int), ())
              else
              some ((1 : Int), (0 : Int), ())
            else
            some ((1 : Int), (0 : Int), ())
          else
          some ((1 : Int), (0 : Int), ())
        else
        bif (Go.Iv.ilt (1 : Int) (len b)) then
          Option.bind (b[0]?) fun x203 =>
          bif (x203 != (0 : UInt8)) then
            Option.bind (b[1]?) fun x204 =>
            bif (x204 == (0 : UInt8)) then
              some ((3 : Int), (0 : Int), ())
            else
            some ((1 : Int), (0 : Int), ())
          else
          some ((1 : Int), (0 : Int), ())
        else
        some ((1 : Int), (0 : Int), ())
      else
      bif (Go.Iv.ilt (1 : Int) (len b)) then
        Option.bind (b[0]?) fun x205 =>
        bif (x205 == (0 : UInt8)) then
          Option.bind (b[1]?) fun x206 =>
          bif (x206 != (0 : UInt8)) then
            some ((2 : Int), (0 : Int), ())
          else
          bif (Go.Iv.ilt (1 : Int) (len b)) then
            Option.bind (b[0]?) fun x207 =>
            bif (x207 != (0 : UInt8)) then
              Option.bind (b[1]?) fun x208 =>
              bif (x208 == (0 : UInt8)) then
                some ((3 : Int), (0 : Int), ())
              else
              some ((1 : Int), (0 : Int), ())
            else
            some ((1 : Int), (0 : Int), ())
          else
          some ((1 : Int), (0 : Int), ())
        else
        bif (Go.Iv.ilt (1 : Int) (len b)) then
          Option.bind (b[0]?) fun x209 =>
          bif (x209 != (0 : UInt8)) then
            Option.bind (b[1]?) fun x210 =>
            bif (x210 == (0 : UInt8)) then
              some ((3 : Int), (0 : Int), ())
            else
            some ((1 : Int), (0 : Int), ())
          else
          some ((1 : Int), (0 : Int), ())
        else
        some ((1 : Int), (0 : Int), ())
      else
      bif (Go.Iv.ilt (1 : Int) (len b)) then
        Option.bind (b[0]?) fun x211 =>
        bif (x211 != (0 : UInt8)) then
          Option.bind (b[1]?) fun x212 =>
          bif (x212 == (0 : UInt8)) then
            some ((3 : Int), (0 : Int), ())
          else
          some ((1 : Int), (0 : Int), ())
        else
        some ((1 : Int), (0 : Int), ())
      else
      some ((1 : Int), (0 : Int), ())
    else
    bif (Go.Iv.ilt (1 : Int) (len b)) then
      Option.bind (b[0]?) fun x213 =>
      bif (x213 == (0 : UInt8)) then
        Option.bind (b[1]?) fun x214 =>
        bif (x214 != (0 : UInt8)) then
          some ((2 : Int), (0 : Int), ())
        else
        bif (Go.Iv.ilt (1 : Int) (len b)) then
          Option.bind (b[0]?) fun x215 =>
          bif (x215 != (0 : UInt8)) then
            Option.bind (b[1]?) fun x216 =>
            bif (x216 == (0 : UInt8)) then
              some ((3 : Int), (0 : Int), ())
            else
            some ((1 : Int), (0 : Int), ())
          else
          some ((1 : Int), (0 : Int), ())
        else
        some ((1 : Int), (0 : Int), ())
      else
      bif (Go.Iv.ilt (1 : Int) (len b)) then
        Option.bind (b[0]?) fun x217 =>
        bif (x217 != (0 : UInt8)) then
          Option.bind (b[1]?) fun x218 =>
          bif (x218 == (0 : UInt8)) then
            some ((3 : Int), (0 : Int), ())
          else
          some ((1 : Int), (0 : Int), ())
        else
        some ((1 : Int), (0 : Int), ())
      else
      some ((1 : Int), (0 : Int), ())
    else
    bif (Go.Iv.ilt (1 : Int) (len b)) then
      Option.bind (b[0]?) fun x219 =>
      bif (x219 != (0 : UInt8)) then
        Option.bind (b[1]?) fun x220 =>
        bif (x220 == (0 : UInt8)) then
          some ((3 : Int), (0 : Int), ())
        else
        some ((1 : Int), (0 : Int), ())
      else
      some ((1 : Int), (0 : Int), ())
    else
    some ((1 : Int), (0 : Int), ())
  else
  bif (Go.Iv.ilt (1 : Int) (len b)) then
    Option.bind (b[0]?) fun x221 =>
    bif (x221 == (0 : UInt8)) then
      Option.bind (b[1]?) fun x222 =>
      bif (x222 != (0 : UInt8)) then
        some ((2 : Int), (0 : Int), ())
      else
      bif (Go.Iv.ilt (1 : Int) (len b)) then
        Option.bind (b[0]?) fun x223 =>
        bif (x223 != (0 : UInt8)) then
          Option.bind (b[1]?) fun x224 =>
          bif (x224 == (0 : UInt8)) then
            some ((3 : Int), (0 : Int), ())
          else
          some ((1 : Int), (0 : Int), ())
        else
        some ((1 : Int), (0 : Int), ())
      else
      some ((1 : Int), (0 : Int), ())
    else
    bif (Go.Iv.ilt (1 : Int) (len b)) then
      Option.bind (b[0]?) fun x225 =>
      bif (x225 != (0 : UInt8)) then
        Option.bind (b[1]?) fun x226 =>
        bif (x226 == (0 : UInt8)) then
          some ((3 : Int), (0 : Int), ())
        else
        some ((1 : Int), (0 : Int), ())
      else
      some ((1 : Int), (0 : Int), ())
    else
    some ((1 : Int), (0 : Int), ())
  else
  bif (Go.Iv.ilt (1 : Int) (len b)) then
    Option.bind (b[0]?) fun x227 =>
    bif (x227 != (0 : UInt8)) then
      Option.bind (b[1]?) fun x228 =>
      bif (x228 == (0 : UInt8)) then
        some ((3 : Int), (0 : Int), ())
      else
      some ((1 : Int), (0 : Int), ())
    else
    some ((1 : Int), (0 : Int), ())
  else
  some ((1 : Int), (0 : Int), ())
noncomputable def formR_it : FnIt := ⟨12, [(false, (.slc .byte))], [(false, (.int .i64)), (false, (.int .i64))], 2, fun n x => formR n x.1⟩
theorem formR_ok (n : Nat) : FnOK Go.Proofs.Tryd.prog hint shT formR_it n :=
  FnOK.of (hk := fun β => (Known.mk [isR_it, right_it, alive_it] [L25_4_it]).hk β) (sh := shT) (fun m _ => KnownOK.hook ((((KnownOK.nil.fn alive_ok).fn right_ok).loop L25_4_ok L25_4_T_ok).fn isR_ok) m) (fun x => by kernel_rfl)

noncomputable def L20_7_Xexit2 : Tm := ⟨[(0, .one (.lst .byte)), (1, .one (.int .i64)), (2, .one (.bool)), (8, .one (.fix (Go.Gv.TV.raw (Go.Value.slice (Option.none) 0 0)))), (9, .one (.int .i64)), (10, .one (.int .i64))], [], 64, 64, 2001⟩
noncomputable def L20_7_T : Tm := ⟨[(0, .one (.lst .byte)), (1, .one (.int .i64)), (2, .one (.bool)), (8, .one (.fix (Go.Gv.TV.raw (Go.Value.slice (Option.none) 0 0)))), (9, .one (.int .i64)), (10, .one (.int .i64)), (11, .one (.int .i64))], [], 64, 64, 2001⟩
noncomputable def L20_7 : Nat → (List UInt8) → Int → Bool → Int → Int → Int → Option (((List UInt8) × (Int × (Bool × (Unit × (Int × (Int × Unit)))))) × Unit)
  | 0, _, _, _, _, _, _ => none
  | n + 1, t0, t1, t2, t9, t10, t11 =>
    bif (Go.Iv.ilt t11 t1) then
      bif (Go.Iv.ile (0 : Int) (Go.IntKind.wrap Go.IntKind.i64 (t9 + t11))) then
      Option.bind (t0[(Int.toNat (Go.IntKind.wrap Go.IntKind.i64 (t9 + t11)))]?) fun x2 =>
      bif t2 then
        L20_7 n t0 t1 t2 t9 (orI Go.IntKind.i64 (shlI Go.IntKind.i64 t10 8) (Go.IntKind.wrap Go.IntKind.i64 (ub x2))) (Go.IntKind.wrap Go.IntKind.i64 (t11 + (1 : Int)))
      else
      bif (Go.Iv.ile (0 : Int) (Go.IntKind.wrap Go.IntKind.u64 (Go.IntKind.wrap Go.IntKind.i64 ((8 : Int) * t11)))) then
      L20_7 n t0 t1 t2 t9 (orI Go.IntKind.i64 t10 (shlI Go.IntKind.i64 (Go.IntKind.wrap Go.IntKind.i64 (ub x2)) (Int.toNat (Go.IntKind.wrap Go.IntKind.u64 (Go.IntKind.wrap Go.IntKind.i64 ((8 : Int) * t11)))))) (Go.IntKind.wrap Go.IntKind.i64 (t11 + (1 : Int)))
      else none
      else none
    else
    some ((t0, (t1, (t2, ((), (t9, (t10, ())))))), ())
noncomputable def L20_7_it : LoopIt := ⟨20, 7, none, L20_7_T, [(.exit 2, L20_7_Xexit2)], 0, fun n x => L20_7 n x.1.1 x.1.2.1 x.1.2.2.1 x.1.2.2.2.2.1 x.1.2.2.2.2.2.1 x.1.2.2.2.2.2.2.1⟩
theorem L20_7_Xexit2_ok : L20_7_Xexit2.ok Go.Proofs.Tryd.prog hint := by
  intro p hp
  cases hp
theorem L20_7_T_ok : L20_7_T.ok Go.Proofs.Tryd.prog hint := by
  intro p hp
  cases hp
theorem L20_7_ok : ∀ n, LoopOK Go.Proofs.Tryd.prog hint shT L20_7_it n :=
  LoopOK.of (hk := fun β => (Known.mk [formR_it, isR_it, right_it, alive_it] [L25_4_it]).hk β) (sh := shT) (OneLoop.of (by kernel_rfl)) L20_7_T_ok ⟨⟨L20_7_Xexit2_ok, Nat.le_refl _, Nat.le_refl _⟩, trivial⟩ (fun m => KnownOK.hook (((((KnownOK.nil.fn alive_ok).fn right_ok).loop L25_4_ok L25_4_T_ok).fn isR_ok).fn formR_ok) m)
    (fun _ => by kernel_rfl) (fun m x => by kernel_rfl)

noncomputable def L20_7_65_Xexit2 : Tm := ⟨[(0, .one (.lst .byte)), (1, .one (.int .i64)), (2, .one (.bool)), (8, .one (.all 65 3 (.int .i64) true)), (9, .one (.int .i64)), (10, .one (.int .i64))], [], 65, 66, 2001⟩
noncomputable def L20_7_65_T : Tm := ⟨[(0, .one (.lst .byte)), (1, .one (.int .i64)), (2, .one (.bool)), (8, .one (.all 65 3 (.int .i64) true)), (9, .one (.int .i64)), (10, .one (.int .i64)), (11, .one (.int .i64))], [], 65, 66, 2001⟩
noncomputable def L20_7_65 : Nat → (List UInt8) → Int → Bool → (List Int) → Int → Int → Int → Option (((List UInt8) × (Int × (Bool × ((List Int) × (Int × (Int × Unit)))))) × Unit)
  | 0, _, _, _, _, _, _, _ => none
  | n + 1, t0, t1, t2, t8, t9, t10, t11 =>
    bif (Go.Iv.ilt t11 t1) then
      bif (Go.Iv.ile (0 : Int) (Go.IntKind.wrap Go.IntKind.i64 (t9 + t11))) then
      Option.bind (t0[(Int.toNat (Go.IntKind.wrap Go.IntKind.i64 (t9 + t11)))]?) fun x6 =>
      bif t2 then
        L20_7_65 n t0 t1 t2 t8 t9 (orI Go.IntKind.i64 (shlI Go.IntKind.i64 t10 8) (Go.IntKind.wrap Go.IntKind.i64 (ub x6))) (Go.IntKind.wrap Go.IntKind.i64 (t11 + (1 : Int)))
      else
      bif (Go.Iv.ile (0 : Int) (Go.IntKind.wrap Go.IntKind.u64 (Go.IntKind.wrap Go.IntKind.i64 ((8 : Int) * t11)))) then
      L20_7_65 n t0 t1 t2 t8 t9 (orI Go.IntKind.i64 t10 (shlI Go.IntKind.i64 (Go.IntKind.wrap Go.IntKind.i64 (ub x6)) (Int.toNat (Go.IntKind.wrap Go.IntKind.u64 (Go.IntKind.wrap Go.IntKind.i64 ((8 : Int) * t11)))))) (Go.IntKind.wrap Go.IntKind.i64 (t11 + (1 : Int)))
      else none
      else none
    else
    some ((t0, (t1, (t2, (t8, (t9, (t10, ())))))), ())
noncomputable def L20_7_65_it : LoopIt := ⟨20, 7, none, L20_7_65_T, [(.exit 2, L20_7_65_Xexit2)], 0, fun n x => L20_7_65 n x.1.1 x.1.2.1 x.1.2.2.1 x.1.2.2.2.1 x.1.2.2.2.2.1 x.1.2.2.2.2.2.1 x.1.2.2.2.2.2.2.1⟩
theorem L20_7_65_Xexit2_ok : L20_7_65_Xexit2.ok Go.Proofs.Tryd.prog hint := by
  intro p hp
  cases hp
theorem L20_7_65_T_ok : L20_7_65_T.ok Go.Proofs.Tryd.prog hint := by
  intro p hp
  cases hp
theorem L20_7_65_ok : ∀ n, LoopOK Go.Proofs.Tryd.prog hint shT L20_7_65_it n :=
  LoopOK.of (hk := fun β => (Known.mk [formR_it, isR_it, right_it, alive_it] [L20_7_it, L25_4_it]).hk β) (sh := shT) (OneLoop.of (by kernel_rfl)) L20_7_65_T_ok ⟨⟨L20_7_65_Xexit2_ok, Nat.le_refl _, Nat.le_refl _⟩, trivial⟩ (fun m => KnownOK.hook ((((((KnownOK.nil.fn alive_ok).fn right_ok).loop L25_4_ok L25_4_T_ok).fn isR_ok).fn formR_ok).loop L20_7_ok L20_7_T_ok) m)
    (fun _ => by kernel_rfl) (fun m x => by kernel_rfl)

noncomputable def L20_3_Xexit0 : Tm := ⟨[(0, .one (.lst .byte)), (1, .one (.int .i64)), (8, .one (.all 64 3 (.int .i64) true))], [], 64, 65, 1000⟩
noncomputable def L20_3_T : Tm := ⟨[(0, .one (.lst .byte)), (1, .one (.int .i64)), (2, .one (.bool)), (8, .one (.all 64 3 (.int .i64) true)), (9, .one (.int .i64))], [], 64, 65, 1000⟩
noncomputable def L20_3 : Nat → (List UInt8) → Int → Bool → (List Int) → Int → Option (((List UInt8) × (Int × ((List Int) × Unit))) × Unit)
  | 0, _, _, _, _, _ => none
  | n + 1, t0, t1, t2, t8, t9 =>
    bif (Go.Iv.ile (Go.IntKind.wrap Go.IntKind.i64 (t9 + t1)) (len t0)) then
      Option.bind (L20_7_65 (n + 2) t0 t1 t2 t8 t9 (0 : Int) (0 : Int)) fun y9 =>
      bif (room (((List.length y9.1.2.2.2.1) + (List.length (y9.1.2.2.2.2.2.1 :: []))) * 9)) then
      L20_3 n y9.1.1 y9.1.2.1 y9.1.2.2.1 (y9.1.2.2.2.1 ++ (y9.1.2.2.2.2.2.1 :: [])) (Go.IntKind.wrap Go.IntKind.i64 (y9.1.2.2.2.2.1 + y9.1.2.1))
      else none
    else
    some ((t0, (t1, (t8, ()))), ())
noncomputable def L20_3_it : LoopIt := ⟨20, 3, none, L20_3_T, [(.exit 0, L20_3_Xexit0)], 1, fun n x => L20_3 n x.1.1 x.1.2.1 x.1.2.2.1 x.1.2.2.2.1 x.1.2.2.2.2.1⟩
theorem L20_3_Xexit0_ok : L20_3_Xexit0.ok Go.Proofs.Tryd.prog hint := by
  intro p hp
  cases hp
theorem L20_3_T_ok : L20_3_T.ok Go.Proofs.Tryd.prog hint := by
  intro p hp
  cases hp
theorem L20_3_ok : ∀ n, LoopOK Go.Proofs.Tryd.prog hint shT L20_3_it n :=
  LoopOK.of (hk := fun β => (Known.mk [formR_it, isR_it, right_it, alive_it] [L20_7_65_it, L20_7_it, L25_4_it]).hk β) (sh := shT) (OneLoop.of (by kernel_rfl)) L20_3_T_ok ⟨⟨L20_3_Xexit0_ok, Nat.le_refl _, Nat.le_refl _⟩, trivial⟩ (fun m => KnownOK.hook (((((((KnownOK.nil.fn alive_ok).fn right_ok).loop L25_4_ok L25_4_T_ok).fn isR_ok).fn formR_ok).loop L20_7_ok L20_7_T_ok).loop L20_7_65_ok L20_7_65_T_ok) m)
    (fun _ => by kernel_rfl) (fun m x => by kernel_rfl)

noncomputable def unitsR (n : Nat) (b : List UInt8) (size : Int) (great : Bool) : Option ((List Int) × (Bool × Unit)) :=
  Option.bind (L20_3 n b size great [] (0 : Int)) fun y10 =>
  bif (y10.1.2.1 != (0 : Int)) then
  some (y10.1.2.2.1, ((Int.tmod (len y10.1.1) y10.1.2.1) == (0 : Int)), ())
  else none
noncomputable def unitsR_it : FnIt := ⟨20, [(false, (.slc .byte)), (false, (.int .i64)), (false, .bool)], [(false, (.slc (.int .i64))), (false, .bool)], 1, fun n x => unitsR n x.1 x.2.1 x.2.2.1⟩
theorem unitsR_ok (n : Nat) : FnOK Go.Proofs.Tryd.prog hint shT unitsR_it n :=
  FnOK.of (hk := fun β => (Known.mk [formR_it, isR_it, right_it, alive_it] [L20_3_it, L20_7_65_it, L20_7_it, L25_4_it]).hk β) (sh := shT) (fun m _ => KnownOK.hook ((((((((KnownOK.nil.fn alive_ok).fn right_ok).loop L25_4_ok L25_4_T_ok).fn isR_ok).fn formR_ok).loop L20_7_ok L20_7_T_ok).loop L20_7_65_ok L20_7_65_T_ok).loop L20_3_ok L20_3_T_ok) m) (fun x => by kernel_rfl)

noncomputable def L21_3_Xexit0 : Tm := ⟨[(4, .one (.all 64 3 (.int .i64) true))], [], 64, 65, 1000⟩
noncomputable def L21_3_Xret : Tm := ⟨[(2, .one (.fix (Go.Gv.TV.raw (Go.Value.slice (Option.none) 0 0)))), (3, .one (.bool))], [], 64, 64, 1000⟩
noncomputable def L21_3_T : Tm := ⟨[(0, .one (.lst (.int .i64))), (4, .one (.all 64 3 (.int .i64) true)), (5, .one (.int .i64))], [], 64, 65, 1000⟩
noncomputable def L21_3 : Nat → (List Int) → (List Int) → Int → Option ((((List Int) × Unit) × Unit) ⊕ ((Unit × (Bool × Unit)) × Unit))
  | 0, _, _, _ => none
  | n + 1, t0, t4, t5 =>
    bif (Go.Iv.ilt t5 (len t0)) then
      bif (Go.Iv.ile (0 : Int) t5) then
      Option.bind (t0[(Int.toNat t5)]?) fun x30 =>
      bif (Go.Iv.ile (55296 : Int) x30) then
        bif (Go.Iv.ilt x30 (56320 : Int)) then
          bif (Go.Iv.ilt (Go.IntKind.wrap Go.IntKind.i64 (t5 + (1 : Int))) (len t0)) then
            bif (Go.Iv.ile (0 : Int) (Go.IntKind.wrap Go.IntKind.i64 (t5 + (1 : Int)))) then
            Option.bind (t0[(Int.toNat (Go.IntKind.wrap Go.IntKind.i64 (t5 + (1 : Int))))]?) fun x31 =>
            bif (Go.Iv.ile (56320 : Int) x31) then
              bif (Go.Iv.ile (0 : Int) (Go.IntKind.wrap Go.IntKind.i64 (t5 + (1 : Int)))) then
              Option.bind (t0[(Int.toNat (Go.IntKind.wrap Go.IntKind.i64 (t5 + (1 : Int))))]?) fun x32 =>
              bif (Go.Iv.ilt x32 (57344 : Int)) then
                bif (Go.Iv.ile (0 : Int) (Go.IntKind.wrap Go.IntKind.i64 (t5 + (1 : Int)))) then
                Option.bind (t0[(Int.toNat (Go.IntKind.wrap Go.IntKind.i64 (t5 + (1 : Int))))]?) fun x33 =>
                Option.bind (right (n + 1) (Go.IntKind.wrap Go.IntKind.i64 ((Go.IntKind.wrap Go.IntKind.i64 ((Go.IntKind.wrap Go.IntKind.i64 ((65536 : Int) + (shlI Go.IntKind.i64 (Go.IntKind.wrap Go.IntKind.i64 (x30 - (55296 : Int))) 10))) + x33)) - (56320 : Int)))) fun y34 =>
                bif (!y34.1) then
                  some (.inr (((), (Bool.false, ())), ()))
                else
                bif (room (((List.length t4) + (List.length ((Go.IntKind.wrap Go.IntKind.i64 ((Go.IntKind.wrap Go.IntKind.i64 ((Go.IntKind.wrap Go.IntKind.i64 ((65536 : Int) + (shlI Go.IntKind.i64 (Go.IntKind.wrap Go.IntKind.i64 (x30 - (55296 : Int))) 10))) + x33)) - (56320 : Int))) :: []))) * 9)) then
                L21_3 n t0 (t4 ++ ((Go.IntKind.wrap Go.IntKind.i64 ((Go.IntKind.wrap Go.IntKind.i64 ((Go.IntKind.wrap Go.IntKind.i64 ((65536 : Int) + (shlI Go.IntKind.i64 (Go.IntKind.wrap Go.IntKind.i64 (x30 - (55296 : Int))) 10))) + x33)) - (56320 : Int))) :: [])) (Go.IntKind.wrap Go.IntKind.i64 ((Go.IntKind.wrap Go.IntKind.i64 (t5 + (1 : Int))) + (1 : Int)))
                else none
                else none
              else
              Option.bind (right (n + 1) x30) fun y35 =>
              bif (!y35.1) then
                some (.inr (((), (Bool.false, ())), ()))
              else
              bif (room (((List.length t4) + (List.length (x30 :: []))) * 9)) then
              L21_3 n t0 (t4 ++ (x30 :: [])) (Go.IntKind.wrap Go.IntKind.i64 (t5 + (1 : Int)))
              else none
              else none
            else
            Option.bind (right (n + 1) x30) fun y36 =>
            bif (!y36.1) then
              some (.inr (((), (Bool.false, ())), ()))
            else
            bif (room (((List.length t4) + (List.length (x30 :: []))) * 9)) then
            L21_3 n t0 (t4 ++ (x30 :: [])) (Go.IntKind.wrap Go.IntKind.i64 (t5 + (1 : Int)))
            else none
            else none
          else
          Option.bind (right (n + 1) x30) fun y37 =>
          bif (!y37.1) then
            some (.inr (((), (Bool.false, ())), ()))
          else
          bif (room (((List.length t4) + (List.length (x30 :: []))) * 9)) then
          L21_3 n t0 (t4 ++ (x30 :: [])) (Go.IntKind.wrap Go.IntKind.i64 (t5 + (1 : Int)))
          else none
        else
        Option.bind (right (n + 1) x30) fun y38 =>
        bif (!y38.1) then
          some (.inr (((), (Bool.false, ())), ()))
        else
        bif (room (((List.length t4) + (List.length (x30 :: []))) * 9)) then
        L21_3 n t0 (t4 ++ (x30 :: [])) (Go.IntKind.wrap Go.IntKind.i64 (t5 + (1 : Int)))
        else none
      else
      Option.bind (right (n + 1) x30) fun y39 =>
      bif (!y39.1) then
        some (.inr (((), (Bool.false, ())), ()))
      else
      bif (room (((List.length t4) + (List.length (x30 :: []))) * 9)) then
      L21_3 n t0 (t4 ++ (x30 :: [])) (Go.IntKind.wrap Go.IntKind.i64 (t5 + (1 : Int)))
      else none
      else none
    else
    some (.inl ((t4, ()), ()))
noncomputable def L21_3_it : LoopIt := ⟨21, 3, none, L21_3_T, [(.exit 0, L21_3_Xexit0), (.ret, L21_3_Xret)], 1, fun n x => L21_3 n x.1.1 x.1.2.1 x.1.2.2.1⟩
theorem L21_3_Xexit0_ok : L21_3_Xexit0.ok Go.Proofs.Tryd.prog hint := by
  intro p hp
  cases hp
theorem L21_3_Xret_ok : L21_3_Xret.ok Go.Proofs.Tryd.prog hint := by
  intro p hp
  cases hp
theorem L21_3_T_ok : L21_3_T.ok Go.Proofs.Tryd.prog hint := by
  intro p hp
  cases hp
theorem L21_3_ok : ∀ n, LoopOK Go.Proofs.Tryd.prog hint shT L21_3_it n :=
  LoopOK.of (hk := fun β => (Known.mk [unitsR_it, formR_it, isR_it, right_it, alive_it] [L20_3_it, L20_7_65_it, L20_7_it, L25_4_it]).hk β) (sh := shT) (OneLoop.of (by kernel_rfl)) L21_3_T_ok ⟨⟨L21_3_Xexit0_ok, Nat.le_refl _, Nat.le_refl _⟩, ⟨L21_3_Xret_ok, Nat.le_refl _, Nat.le_refl _⟩, trivial⟩ (fun m => KnownOK.hook (((((((((KnownOK.nil.fn alive_ok).fn right_ok).loop L25_4_ok L25_4_T_ok).fn isR_ok).fn formR_ok).loop L20_7_ok L20_7_T_ok).loop L20_7_65_ok L20_7_65_T_ok).loop L20_3_ok L20_3_T_ok).fn unitsR_ok) m)
    (fun _ => by kernel_rfl) (fun m x => by kernel_rfl)

noncomputable def pairsR (n : Nat) (l : List Int) : Option ((List Int) × (Bool × Unit)) :=
  Option.bind (L21_3 n l [] (0 : Int)) fun y40 =>
  match y40 with
    | .inl y41 =>
      some (y41.1.1, Bool.true, ())
    | .inr y42 =>
      some ([], y42.1.2.1, ())
noncomputable def pairsR_it : FnIt := ⟨21, [(false, (.slc (.int .i64)))], [(false, (.slc (.int .i64))), (false, .bool)], 1, fun n x => pairsR n x.1⟩
theorem pairsR_ok (n : Nat) : FnOK Go.Proofs.Tryd.prog hint shT pairsR_it n :=
  FnOK.of (hk := fun β => (Known.mk [unitsR_it, formR_it, isR_it, right_it, alive_it] [L21_3_it, L20_3_it, L20_7_65_it, L20_7_it, L25_4_it]).hk β) (sh := shT) (fun m _ => KnownOK.hook ((((((((((KnownOK.nil.fn alive_ok).fn right_ok).loop L25_4_ok L25_4_T_ok).fn isR_ok).fn formR_ok).loop L20_7_ok L20_7_T_ok).loop L20_7_65_ok L20_7_65_T_ok).loop L20_3_ok L20_3_T_ok).fn unitsR_ok).loop L21_3_ok L21_3_T_ok) m) (fun x => by kernel_rfl)

noncomputable def L31_23_Xexit1 : Tm := ⟨[(5, .one (.int .i64)), (6, .one (.int .i64)), (7, .one (.int .i64))], [], 64, 64, 1000⟩
noncomputable def L31_23_Xret : Tm := ⟨[(2, .one (.int .i64)), (3, .one (.int .i64))], [], 64, 64, 1000⟩
noncomputable def L31_23_T : Tm := ⟨[(0, .one (.lst .byte)), (5, .one (.int .i64)), (6, .one (.int .i64)), (7, .one (.int .i64)), (8, .one (.int .i64))], [], 64, 64, 1000⟩
noncomputable def L31_23 : Nat → (List UInt8) → Int → Int → Int → Int → Option (((Int × (Int × (Int × Unit))) × Unit) ⊕ ((Int × (Int × Unit)) × Unit))
  | 0, _, _, _, _, _ => none
  | n + 1, t0, t5, t6, t7, t8 =>
    bif (Go.Iv.ilt t8 t5) then
      bif (Go.Iv.ile (0 : Int) t8) then
      Option.bind (t0[(Int.toNat t8)]?) fun x3 =>
      bif (Go.Iv.ilt (Go.IntKind.wrap Go.IntKind.i64 (ub x3)) (128 : Int)) then
        some (.inr (((0 : Int), ((0 : Int), ())), ()))
      else
      bif (Go.Iv.ilt (191 : Int) (Go.IntKind.wrap Go.IntKind.i64 (ub x3))) then
        some (.inr (((0 : Int), ((0 : Int), ())), ()))
      else
      L31_23 n t0 t5 t6 (Go.IntKind.wrap Go.IntKind.i64 ((Go.IntKind.wrap Go.IntKind.i64 (t7 * (64 : Int))) + (andI Go.IntKind.i64 (Go.IntKind.wrap Go.IntKind.i64 (ub x3)) (63 : Int)))) (Go.IntKind.wrap Go.IntKind.i64 (t8 + (1 : Int)))
      else none
    else
    some (.inl ((t5, (t6, (t7, ()))), ()))
noncomputable def L31_23_it : LoopIt := ⟨31, 23, none, L31_23_T, [(.exit 1, L31_23_Xexit1), (.ret, L31_23_Xret)], 0, fun n x => L31_23 n x.1.1 x.1.2.1 x.1.2.2.1 x.1.2.2.2.1 x.1.2.2.2.2.1⟩
theorem L31_23_Xexit1_ok : L31_23_Xexit1.ok Go.Proofs.Tryd.prog hint := by
  intro p hp
  cases hp
theorem L31_23_Xret_ok : L31_23_Xret.ok Go.Proofs.Tryd.prog hint := by
  intro p hp
  cases hp
theorem L31_23_T_ok : L31_23_T.ok Go.Proofs.Tryd.prog hint := by
  intro p hp
  cases hp
theorem L31_23_ok : ∀ n, LoopOK Go.Proofs.Tryd.prog hint shT L31_23_it n :=
  LoopOK.of (hk := fun β => (Known.mk [pairsR_it, unitsR_it, formR_it, isR_it, right_it, alive_it] [L21_3_it, L20_3_it, L20_7_65_it, L20_7_it, L25_4_it]).hk β) (sh := shT) (OneLoop.of (by kernel_rfl)) L31_23_T_ok ⟨⟨L31_23_Xexit1_ok, Nat.le_refl _, Nat.le_refl _⟩, ⟨L31_23_Xret_ok, Nat.le_refl _, Nat.le_refl _⟩, trivial⟩ (fun m => KnownOK.hook (((((((((((KnownOK.nil.fn alive_ok).fn right_ok).loop L25_4_ok L25_4_T_ok).fn isR_ok).fn formR_ok).loop L20_7_ok L20_7_T_ok).loop L20_7_65_ok L20_7_65_T_ok).loop L20_3_ok L20_3_T_ok).fn unitsR_ok).loop L21_3_ok L21_3_T_ok).fn pairsR_ok) m)
    (fun _ => by kernel_rfl) (fun m x => by kernel_rfl)

noncomputable def pointR (n : Nat) (b : List UInt8) : Option (Int × (Int × Unit)) :=
  Option.bind (b[0]?) fun x0 =>
  bif (Go.Iv.ilt (Go.IntKind.wrap Go.IntKind.i64 (ub x0)) (128 : Int)) then
    some ((Go.IntKind.wrap Go.IntKind.i64 (ub x0)), (1 : Int), ())
  else
  bif (Go.Iv.ile (194 : Int) (Go.IntKind.wrap Go.IntKind.i64 (ub x0))) then
    bif (Go.Iv.ilt (Go.IntKind.wrap Go.IntKind.i64 (ub x0)) (224 : Int)) then
      bif (Go.Iv.ilt (len b) (2 : Int)) then
        some ((0 : Int), (0 : Int), ())
      else
      Option.bind (L31_23 (n + 1) b (2 : Int) (128 : Int) (andI Go.IntKind.i64 (Go.IntKind.wrap Go.IntKind.i64 (ub x0)) (31 : Int)) (1 : Int)) fun y4 =>
      match y4 with
        | .inl y5 =>
          bif (Go.Iv.ilt y5.1.2.2.1 y5.1.2.1) then
            some ((0 : Int), (0 : Int), ())
          else
          Option.bind (right n y5.1.2.2.1) fun y7 =>
          bif (!y7.1) then
            some ((0 : Int), (0 : Int), ())
          else
          some (y5.1.2.2.1, y5.1.1, ())
        | .inr y6 =>
          some (y6.1.1, y6.1.2.1, ())
    else
    bif (Go.Iv.ile (224 : Int) (Go.IntKind.wrap Go.IntKind.i64 (ub x0))) then
      bif (Go.Iv.ilt (Go.IntKind.wrap Go.IntKind.i64 (ub x0)) (240 : Int)) then
        bif (Go.Iv.ilt (len b) (3 : Int)) then
          some ((0 : Int), (0 : Int), ())
        else
        Option.bind (L31_23 (n + 1) b (3 : Int) (2048 : Int) (andI Go.IntKind.i64 (Go.IntKind.wrap Go.IntKind.i64 (ub x0)) (15 : Int)) (1 : Int)) fun y8 =>
        match y8 with
          | .inl y9 =>
            bif (Go.Iv.ilt y9.1.2.2.1 y9.1.2.1) then
              some ((0 : Int), (0 : Int), ())
            else
            Option.bind (right n y9.1.2.2.1) fun y11 =>
            bif (!y11.1) then
              some ((0 : Int), (0 : Int), ())
            else
            some (y9.1.2.2.1, y9.1.1, ())
          | .inr y10 =>
            some (y10.1.1, y10.1.2.1, ())
      else
      bif (Go.Iv.ile (240 : Int) (Go.IntKind.wrap Go.IntKind.i64 (ub x0))) then
        bif (Go.Iv.ilt (Go.IntKind.wrap Go.IntKind.i64 (ub x0)) (245 : Int)) then
          bif (Go.Iv.ilt (len b) (4 : Int)) then
            some ((0 : Int), (0 : Int), ())
          else
          Option.bind (L31_23 (n + 1) b (4 : Int) (65536 : Int) (andI Go.IntKind.i64 (Go.IntKind.wrap Go.IntKind.i64 (ub x0)) (7 : Int)) (1 : Int)) fun y12 =>
          match y12 with
            | .inl y13 =>
              bif (Go.Iv.ilt y13.1.2.2.1 y13.1.2.1) then
                some ((0 : Int), (0 : Int), ())
              else
              Option.bind (right n y13.1.2.2.1) fun y15 =>
              bif (!y15.1) then
                some ((0 : Int), (0 : Int), ())
              else
              some (y13.1.2.2.1, y13.1.1, ())
            | .inr y14 =>
              some (y14.1.1, y14.1.2.1, ())
        else
        some ((0 : Int), (0 : Int), ())
      else
      some ((0 : Int), (0 : Int), ())
    else
    bif (Go.Iv.ile (240 : Int) (Go.IntKind.wrap Go.IntKind.i64 (ub x0))) then
      bif (Go.Iv.ilt (Go.IntKind.wrap Go.IntKind.i64 (ub x0)) (245 : Int)) then
        bif (Go.Iv.ilt (len b) (4 : Int)) then
          some ((0 : Int), (0 : Int), ())
        else
        Option.bind (L31_23 (n + 1) b (4 : Int) (65536 : Int) (andI Go.IntKind.i64 (Go.IntKind.wrap Go.IntKind.i64 (ub x0)) (7 : Int)) (1 : Int)) fun y16 =>
        match y16 with
          | .inl y17 =>
            bif (Go.Iv.ilt y17.1.2.2.1 y17.1.2.1) then
              some ((0 : Int), (0 : Int), ())
            else
            Option.bind (right n y17.1.2.2.1) fun y19 =>
            bif (!y19.1) then
              some ((0 : Int), (0 : Int), ())
            else
            some (y17.1.2.2.1, y17.1.1, ())
          | .inr y18 =>
            some (y18.1.1, y18.1.2.1, ())
      else
      some ((0 : Int), (0 : Int), ())
    else
    some ((0 : Int), (0 : Int), ())
  else
  bif (Go.Iv.ile (224 : Int) (Go.IntKind.wrap Go.IntKind.i64 (ub x0))) then
    bif (Go.Iv.ilt (Go.IntKind.wrap Go.IntKind.i64 (ub x0)) (240 : Int)) then
      bif (Go.Iv.ilt (len b) (3 : Int)) then
        some ((0 : Int), (0 : Int), ())
      else
      Option.bind (L31_23 (n + 1) b (3 : Int) (2048 : Int) (andI Go.IntKind.i64 (Go.IntKind.wrap Go.IntKind.i64 (ub x0)) (15 : Int)) (1 : Int)) fun y20 =>
      match y20 with
        | .inl y21 =>
          bif (Go.Iv.ilt y21.1.2.2.1 y21.1.2.1) then
            some ((0 : Int), (0 : Int), ())
          else
          Option.bind (right n y21.1.2.2.1) fun y23 =>
          bif (!y23.1) then
            some ((0 : Int), (0 : Int), ())
          else
          some (y21.1.2.2.1, y21.1.1, ())
        | .inr y22 =>
          some (y22.1.1, y22.1.2.1, ())
    else
    bif (Go.Iv.ile (240 : Int) (Go.IntKind.wrap Go.IntKind.i64 (ub x0))) then
      bif (Go.Iv.ilt (Go.IntKind.wrap Go.IntKind.i64 (ub x0)) (245 : Int)) then
        bif (Go.Iv.ilt (len b) (4 : Int)) then
          some ((0 : Int), (0 : Int), ())
        else
        Option.bind (L31_23 (n + 1) b (4 : Int) (65536 : Int) (andI Go.IntKind.i64 (Go.IntKind.wrap Go.IntKind.i64 (ub x0)) (7 : Int)) (1 : Int)) fun y24 =>
        match y24 with
          | .inl y25 =>
            bif (Go.Iv.ilt y25.1.2.2.1 y25.1.2.1) then
              some ((0 : Int), (0 : Int), ())
            else
            Option.bind (right n y25.1.2.2.1) fun y27 =>
            bif (!y27.1) then
              some ((0 : Int), (0 : Int), ())
            else
            some (y25.1.2.2.1, y25.1.1, ())
          | .inr y26 =>
            some (y26.1.1, y26.1.2.1, ())
      else
      some ((0 : Int), (0 : Int), ())
    else
    some ((0 : Int), (0 : Int), ())
  else
  bif (Go.Iv.ile (240 : Int) (Go.IntKind.wrap Go.IntKind.i64 (ub x0))) then
    bif (Go.Iv.ilt (Go.IntKind.wrap Go.IntKind.i64 (ub x0)) (245 : Int)) then
      bif (Go.Iv.ilt (len b) (4 : Int)) then
        some ((0 : Int), (0 : Int), ())
      else
      Option.bind (L31_23 (n + 1) b (4 : Int) (65536 : Int) (andI Go.IntKind.i64 (Go.IntKind.wrap Go.IntKind.i64 (ub x0)) (7 : Int)) (1 : Int)) fun y28 =>
      match y28 with
        | .inl y29 =>
          bif (Go.Iv.ilt y29.1.2.2.1 y29.1.2.1) then
            some ((0 : Int), (0 : Int), ())
          else
          Option.bind (right n y29.1.2.2.1) fun y31 =>
          bif (!y31.1) then
            some ((0 : Int), (0 : Int), ())
          else
          some (y29.1.2.2.1, y29.1.1, ())
        | .inr y30 =>
          some (y30.1.1, y30.1.2.1, ())
    else
    some ((0 : Int), (0 : Int), ())
  else
  some ((0 : Int), (0 : Int), ())
noncomputable def pointR_it : FnIt := ⟨31, [(false, (.slc .byte))], [(false, (.int .i64)), (false, (.int .i64))], 1, fun n x => pointR n x.1⟩
theorem pointR_ok (n : Nat) : FnOK Go.Proofs.Tryd.prog hint shT pointR_it n :=
  FnOK.of (hk := fun β => (Known.mk [pairsR_it, unitsR_it, formR_it, isR_it, right_it, alive_it] [L31_23_it, L21_3_it, L20_3_it, L20_7_65_it, L20_7_it, L25_4_it]).hk β) (sh := shT) (fun m _ => KnownOK.hook ((((((((((((KnownOK.nil.fn alive_ok).fn right_ok).loop L25_4_ok L25_4_T_ok).fn isR_ok).fn formR_ok).loop L20_7_ok L20_7_T_ok).loop L20_7_65_ok L20_7_65_T_ok).loop L20_3_ok L20_3_T_ok).fn unitsR_ok).loop L21_3_ok L21_3_T_ok).fn pairsR_ok).loop L31_23_ok L31_23_T_ok) m) (fun x => by kernel_rfl)

noncomputable def L19_3_Xexit0 : Tm := ⟨[(4, .one (.all 64 3 (.int .i64) true))], [], 64, 65, 1000⟩
noncomputable def L19_3_Xret : Tm := ⟨[(2, .one (.fix (Go.Gv.TV.raw (Go.Value.slice (Option.none) 0 0)))), (3, .one (.bool))], [], 64, 64, 1000⟩
noncomputable def L19_3_T : Tm := ⟨[(0, .one (.lst .byte)), (4, .one (.all 64 3 (.int .i64) true)), (5, .one (.int .i64))], [], 64, 65, 1000⟩
noncomputable def L19_3 : Nat → (List UInt8) → (List Int) → Int → Option ((((List Int) × Unit) × Unit) ⊕ ((Unit × (Bool × Unit)) × Unit))
  | 0, _, _, _ => none
  | n + 1, t0, t4, t5 =>
    bif (Go.Iv.ilt t5 (len t0)) then
      bif ((Go.Iv.ile (0 : Int) t5) && (Go.Iv.ile t5 (len t0))) then
      Option.bind (pointR (n + 1) (List.take ((List.length t0) - (Int.toNat t5)) (List.drop (Int.toNat t5) t0))) fun y3 =>
      bif (y3.2.1 == (0 : Int)) then
        some (.inr (((), (Bool.false, ())), ()))
      else
      bif (room (((List.length t4) + (List.length (y3.1 :: []))) * 9)) then
      L19_3 n t0 (t4 ++ (y3.1 :: [])) (Go.IntKind.wrap Go.IntKind.i64 (t5 + y3.2.1))
      else none
      else none
    else
    some (.inl ((t4, ()), ()))
noncomputable def L19_3_it : LoopIt := ⟨19, 3, none, L19_3_T, [(.exit 0, L19_3_Xexit0), (.ret, L19_3_Xret)], 2, fun n x => L19_3 n x.1.1 x.1.2.1 x.1.2.2.1⟩
theorem L19_3_Xexit0_ok : L19_3_Xexit0.ok Go.Proofs.Tryd.prog hint := by
  intro p hp
  cases hp
theorem L19_3_Xret_ok : L19_3_Xret.ok Go.Proofs.Tryd.prog hint := by
  intro p hp
  cases hp
theorem L19_3_T_ok : L19_3_T.ok Go.Proofs.Tryd.prog hint := by
  intro p hp
  cases hp
theorem L19_3_ok : ∀ n, LoopOK Go.Proofs.Tryd.prog hint shT L19_3_it n :=
  LoopOK.of (hk := fun β => (Known.mk [pointR_it, pairsR_it, unitsR_it, formR_it, isR_it, right_it, alive_it] [L31_23_it, L21_3_it, L20_3_it, L20_7_65_it, L20_7_it, L25_4_it]).hk β) (sh := shT) (OneLoop.of (by kernel_rfl)) L19_3_T_ok ⟨⟨L19_3_Xexit0_ok, Nat.le_refl _, Nat.le_refl _⟩, ⟨L19_3_Xret_ok, Nat.le_refl _, Nat.le_refl _⟩, trivial⟩ (fun m => KnownOK.hook (((((((((((((KnownOK.nil.fn alive_ok).fn right_ok).loop L25_4_ok L25_4_T_ok).fn isR_ok).fn formR_ok).loop L20_7_ok L20_7_T_ok).loop L20_7_65_ok L20_7_65_T_ok).loop L20_3_ok L20_3_T_ok).fn unitsR_ok).loop L21_3_ok L21_3_T_ok).fn pairsR_ok).loop L31_23_ok L31_23_T_ok).fn pointR_ok) m)
    (fun _ => by kernel_rfl) (fun m x => by kernel_rfl)

noncomputable def smallR (n : Nat) (b : List UInt8) : Option ((List Int) × (Bool × Unit)) :=
  Option.bind (L19_3 n b [] (0 : Int)) fun y4 =>
  match y4 with
    | .inl y5 =>
      some (y5.1.1, Bool.true, ())
    | .inr y6 =>
      some ([], y6.1.2.1, ())
noncomputable def smallR_it : FnIt := ⟨19, [(false, (.slc .byte))], [(false, (.slc (.int .i64))), (false, .bool)], 2, fun n x => smallR n x.1⟩
theorem smallR_ok (n : Nat) : FnOK Go.Proofs.Tryd.prog hint shT smallR_it n :=
  FnOK.of (hk := fun β => (Known.mk [pointR_it, pairsR_it, unitsR_it, formR_it, isR_it, right_it, alive_it] [L19_3_it, L31_23_it, L21_3_it, L20_3_it, L20_7_65_it, L20_7_it, L25_4_it]).hk β) (sh := shT) (fun m _ => KnownOK.hook ((((((((((((((KnownOK.nil.fn alive_ok).fn right_ok).loop L25_4_ok L25_4_T_ok).fn isR_ok).fn formR_ok).loop L20_7_ok L20_7_T_ok).loop L20_7_65_ok L20_7_65_T_ok).loop L20_3_ok L20_3_T_ok).fn unitsR_ok).loop L21_3_ok L21_3_T_ok).fn pairsR_ok).loop L31_23_ok L31_23_T_ok).fn pointR_ok).loop L19_3_ok L19_3_T_ok) m) (fun x => by kernel_rfl)

noncomputable def L10_10_Xexit1 : Tm := ⟨[(6, .one (.lst (.int .i64))), (7, .one (.bool))], [], 64, 64, 1000⟩
noncomputable def L10_10_T : Tm := ⟨[(6, .one (.lst (.int .i64))), (7, .one (.bool)), (8, .one (.int .i64))], [], 64, 64, 1000⟩
noncomputable def L10_10 : Nat → (List Int) → Bool → Int → Option (((List Int) × (Bool × Unit)) × Unit)
  | 0, _, _, _ => none
  | n + 1, t6, t7, t8 =>
    bif (Go.Iv.ilt t8 (len t6)) then
      bif t7 then
        bif (Go.Iv.ile (0 : Int) t8) then
        Option.bind (t6[(Int.toNat t8)]?) fun x9 =>
        Option.bind (right (n + 1) x9) fun y10 =>
        L10_10 n t6 y10.1 (Go.IntKind.wrap Go.IntKind.i64 (t8 + (1 : Int)))
        else none
      else
      L10_10 n t6 Bool.false (Go.IntKind.wrap Go.IntKind.i64 (t8 + (1 : Int)))
    else
    some ((t6, (t7, ())), ())
noncomputable def L10_10_it : LoopIt := ⟨10, 10, none, L10_10_T, [(.exit 1, L10_10_Xexit1)], 1, fun n x => L10_10 n x.1.1 x.1.2.1 x.1.2.2.1⟩
theorem L10_10_Xexit1_ok : L10_10_Xexit1.ok Go.Proofs.Tryd.prog hint := by
  intro p hp
  cases hp
theorem L10_10_T_ok : L10_10_T.ok Go.Proofs.Tryd.prog hint := by
  intro p hp
  cases hp
theorem L10_10_ok : ∀ n, LoopOK Go.Proofs.Tryd.prog hint shT L10_10_it n :=
  LoopOK.of (hk := fun β => (Known.mk [smallR_it, pointR_it, pairsR_it, unitsR_it, formR_it, isR_it, right_it, alive_it] [L19_3_it, L31_23_it, L21_3_it, L20_3_it, L20_7_65_it, L20_7_it, L25_4_it]).hk β) (sh := shT) (OneLoop.of (by kernel_rfl)) L10_10_T_ok ⟨⟨L10_10_Xexit1_ok, Nat.le_refl _, Nat.le_refl _⟩, trivial⟩ (fun m => KnownOK.hook (((((((((((((((KnownOK.nil.fn alive_ok).fn right_ok).loop L25_4_ok L25_4_T_ok).fn isR_ok).fn formR_ok).loop L20_7_ok L20_7_T_ok).loop L20_7_65_ok L20_7_65_T_ok).loop L20_3_ok L20_3_T_ok).fn unitsR_ok).loop L21_3_ok L21_3_T_ok).fn pairsR_ok).loop L31_23_ok L31_23_T_ok).fn pointR_ok).loop L19_3_ok L19_3_T_ok).fn smallR_ok) m)
    (fun _ => by kernel_rfl) (fun m x => by kernel_rfl)

noncomputable def pointsR (n : Nat) (b : List UInt8) : Option ((List Int) × (Int × Unit)) :=
  bif (Go.Iv.ilt (1048576 : Int) (len b)) then
    some ([], (3 : Int), ())
  else
  Option.bind (formR n b) fun y0 =>
  bif ((Go.Iv.ile (0 : Int) y0.2.1) && (Go.Iv.ile y0.2.1 (len b))) then
  bif (y0.1 == (1 : Int)) then
    Option.bind (smallR n (List.take ((List.length b) - (Int.toNat y0.2.1)) (List.drop (Int.toNat y0.2.1) b))) fun y1 =>
    bif (!y1.2.1) then
      some ([], (4 : Int), ())
    else
    some (y1.1, (0 : Int), ())
  else
  bif (y0.1 == (2 : Int)) then
    bif (y0.1 == (2 : Int)) then
      Option.bind (unitsR (n + 1) (List.take ((List.length b) - (Int.toNat y0.2.1)) (List.drop (Int.toNat y0.2.1) b)) (2 : Int) (y0.1 == (2 : Int))) fun y2 =>
      bif y2.2.1 then
        Option.bind (pairsR (n + 1) y2.1) fun y3 =>
        bif (!y3.2.1) then
          some ([], (4 : Int), ())
        else
        some (y3.1, (0 : Int), ())
      else
      bif (!y2.2.1) then
        some ([], (4 : Int), ())
      else
      some (y2.1, (0 : Int), ())
    else
    Option.bind (unitsR (n + 1) (List.take ((List.length b) - (Int.toNat y0.2.1)) (List.drop (Int.toNat y0.2.1) b)) (4 : Int) (y0.1 == (4 : Int))) fun y4 =>
    Option.bind (L10_10 (n + 2) y4.1 y4.2.1 (0 : Int)) fun y11 =>
    bif (!y11.1.2.1) then
      some ([], (4 : Int), ())
    else
    some (y11.1.1, (0 : Int), ())
  else
  bif (y0.1 == (3 : Int)) then
    Option.bind (unitsR (n + 1) (List.take ((List.length b) - (Int.toNat y0.2.1)) (List.drop (Int.toNat y0.2.1) b)) (2 : Int) (y0.1 == (2 : Int))) fun y12 =>
    bif y12.2.1 then
      Option.bind (pairsR (n + 1) y12.1) fun y13 =>
      bif (!y13.2.1) then
        some ([], (4 : Int), ())
      else
      some (y13.1, (0 : Int), ())
    else
    bif (!y12.2.1) then
      some ([], (4 : Int), ())
    else
    some (y12.1, (0 : Int), ())
  else
  Option.bind (unitsR (n + 1) (List.take ((List.length b) - (Int.toNat y0.2.1)) (List.drop (Int.toNat y0.2.1) b)) (4 : Int) (y0.1 == (4 : Int))) fun y14 =>
  Option.bind (L10_10 (n + 2) y14.1 y14.2.1 (0 : Int)) fun y15 =>
  bif (!y15.1.2.1) then
    some ([], (4 : Int), ())
  else
  some (y15.1.1, (0 : Int), ())
  else none
noncomputable def pointsR_it : FnIt := ⟨10, [(false, (.slc .byte))], [(false, (.slc (.int .i64))), (false, (.int .i64))], 3, fun n x => pointsR n x.1⟩
theorem pointsR_ok (n : Nat) : FnOK Go.Proofs.Tryd.prog hint shT pointsR_it n :=
  FnOK.of (hk := fun β => (Known.mk [smallR_it, pointR_it, pairsR_it, unitsR_it, formR_it, isR_it, right_it, alive_it] [L10_10_it, L19_3_it, L31_23_it, L21_3_it, L20_3_it, L20_7_65_it, L20_7_it, L25_4_it]).hk β) (sh := shT) (fun m _ => KnownOK.hook ((((((((((((((((KnownOK.nil.fn alive_ok).fn right_ok).loop L25_4_ok L25_4_T_ok).fn isR_ok).fn formR_ok).loop L20_7_ok L20_7_T_ok).loop L20_7_65_ok L20_7_65_T_ok).loop L20_3_ok L20_3_T_ok).fn unitsR_ok).loop L21_3_ok L21_3_T_ok).fn pairsR_ok).loop L31_23_ok L31_23_T_ok).fn pointR_ok).loop L19_3_ok L19_3_T_ok).fn smallR_ok).loop L10_10_ok L10_10_T_ok) m) (fun x => by kernel_rfl)

noncomputable def L14_4_Xexit0 : Tm := ⟨[], [], 64, 64, 1000⟩
noncomputable def L14_4_Xret : Tm := ⟨[(4, .one (.bool))], [], 64, 64, 1000⟩
noncomputable def L14_4_T : Tm := ⟨[(0, .one (.lst (.int .i64))), (1, .one (.lst (.int .i64))), (5, .one (.int .i64))], [], 64, 64, 1000⟩
noncomputable def L14_4 : Nat → (List Int) → (List Int) → Int → Option ((Unit × Unit) ⊕ ((Bool × Unit) × Unit))
  | 0, _, _, _ => none
  | n + 1, t0, t1, t5 =>
    bif (Go.Iv.ilt t5 (len t0)) then
      bif (Go.Iv.ile (0 : Int) t5) then
      Option.bind (t0[(Int.toNat t5)]?) fun x4 =>
      bif (Go.Iv.ile (0 : Int) t5) then
      Option.bind (t1[(Int.toNat t5)]?) fun x5 =>
      bif (x4 != x5) then
        some (.inr ((Bool.false, ()), ()))
      else
      L14_4 n t0 t1 (Go.IntKind.wrap Go.IntKind.i64 (t5 + (1 : Int)))
      else none
      else none
    else
    some (.inl ((), ()))
noncomputable def L14_4_it : LoopIt := ⟨14, 4, none, L14_4_T, [(.exit 0, L14_4_Xexit0), (.ret, L14_4_Xret)], 0, fun n x => L14_4 n x.1.1 x.1.2.1 x.1.2.2.1⟩
theorem L14_4_Xexit0_ok : L14_4_Xexit0.ok Go.Proofs.Tryd.prog hint := by
  intro p hp
  cases hp
theorem L14_4_Xret_ok : L14_4_Xret.ok Go.Proofs.Tryd.prog hint := by
  intro p hp
  cases hp
theorem L14_4_T_ok : L14_4_T.ok Go.Proofs.Tryd.prog hint := by
  intro p hp
  cases hp
theorem L14_4_ok : ∀ n, LoopOK Go.Proofs.Tryd.prog hint shT L14_4_it n :=
  LoopOK.of (hk := fun β => (Known.mk [pointsR_it, smallR_it, pointR_it, pairsR_it, unitsR_it, formR_it, isR_it, right_it, alive_it] [L10_10_it, L19_3_it, L31_23_it, L21_3_it, L20_3_it, L20_7_65_it, L20_7_it, L25_4_it]).hk β) (sh := shT) (OneLoop.of (by kernel_rfl)) L14_4_T_ok ⟨⟨L14_4_Xexit0_ok, Nat.le_refl _, Nat.le_refl _⟩, ⟨L14_4_Xret_ok, Nat.le_refl _, Nat.le_refl _⟩, trivial⟩ (fun m => KnownOK.hook (((((((((((((((((KnownOK.nil.fn alive_ok).fn right_ok).loop L25_4_ok L25_4_T_ok).fn isR_ok).fn formR_ok).loop L20_7_ok L20_7_T_ok).loop L20_7_65_ok L20_7_65_T_ok).loop L20_3_ok L20_3_T_ok).fn unitsR_ok).loop L21_3_ok L21_3_T_ok).fn pairsR_ok).loop L31_23_ok L31_23_T_ok).fn pointR_ok).loop L19_3_ok L19_3_T_ok).fn smallR_ok).loop L10_10_ok L10_10_T_ok).fn pointsR_ok) m)
    (fun _ => by kernel_rfl) (fun m x => by kernel_rfl)

noncomputable def sameInts (n : Nat) (a : List Int) (b : List Int) : Option (Bool × Unit) :=
  bif ((len a) != (len b)) then
    some (Bool.false, ())
  else
  Option.bind (L14_4 (n + 1) a b (0 : Int)) fun y6 =>
  match y6 with
    | .inl _ =>
      some (Bool.true, ())
    | .inr y8 =>
      some (y8.1.1, ())
noncomputable def sameInts_it : FnIt := ⟨14, [(false, (.slc (.int .i64))), (false, (.slc (.int .i64)))], [(false, .bool)], 1, fun n x => sameInts n x.1 x.2.1⟩
theorem sameInts_ok (n : Nat) : FnOK Go.Proofs.Tryd.prog hint shT sameInts_it n :=
  FnOK.of (hk := fun β => (Known.mk [pointsR_it, smallR_it, pointR_it, pairsR_it, unitsR_it, formR_it, isR_it, right_it, alive_it] [L14_4_it, L10_10_it, L19_3_it, L31_23_it, L21_3_it, L20_3_it, L20_7_65_it, L20_7_it, L25_4_it]).hk β) (sh := shT) (fun m _ => KnownOK.hook ((((((((((((((((((KnownOK.nil.fn alive_ok).fn right_ok).loop L25_4_ok L25_4_T_ok).fn isR_ok).fn formR_ok).loop L20_7_ok L20_7_T_ok).loop L20_7_65_ok L20_7_65_T_ok).loop L20_3_ok L20_3_T_ok).fn unitsR_ok).loop L21_3_ok L21_3_T_ok).fn pairsR_ok).loop L31_23_ok L31_23_T_ok).fn pointR_ok).loop L19_3_ok L19_3_T_ok).fn smallR_ok).loop L10_10_ok L10_10_T_ok).fn pointsR_ok).loop L14_4_ok L14_4_T_ok) m) (fun x => by kernel_rfl)

noncomputable def L16_3_Xexit0 : Tm := ⟨[(3, .one (.all 64 5 .byte true))], [], 64, 65, 1000⟩
noncomputable def L16_3_T : Tm := ⟨[(0, .one (.lst (.int .i64))), (3, .one (.all 64 5 .byte true)), (4, .one (.int .i64))], [], 64, 65, 1000⟩
noncomputable def L16_3 : Nat → (List Int) → (List UInt8) → Int → Option (((List UInt8) × Unit) × Unit)
  | 0, _, _, _ => none
  | n + 1, t0, t3, t4 =>
    bif (Go.Iv.ilt t4 (len t0)) then
      bif (Go.Iv.ile (0 : Int) t4) then
      Option.bind (t0[(Int.toNat t4)]?) fun x6 =>
      Option.bind (right (n + 1) x6) fun y7 =>
      bif (!y7.1) then
        bif (room (((List.length t3) + (List.length ((239 : UInt8) :: ((191 : UInt8) :: ((189 : UInt8) :: []))))) * 2)) then
        L16_3 n t0 (t3 ++ ((239 : UInt8) :: ((191 : UInt8) :: ((189 : UInt8) :: [])))) (Go.IntKind.wrap Go.IntKind.i64 (t4 + (1 : Int)))
        else none
      else
      bif (Go.Iv.ilt x6 (128 : Int)) then
        bif (room (((List.length t3) + (List.length ((UInt8.ofNat (Int.toNat (Go.IntKind.wrap Go.IntKind.u8 x6))) :: []))) * 2)) then
        L16_3 n t0 (t3 ++ ((UInt8.ofNat (Int.toNat (Go.IntKind.wrap Go.IntKind.u8 x6))) :: [])) (Go.IntKind.wrap Go.IntKind.i64 (t4 + (1 : Int)))
        else none
      else
      bif (Go.Iv.ilt x6 (2048 : Int)) then
        bif (room (((List.length t3) + (List.length ((UInt8.ofNat (Int.toNat (Go.IntKind.wrap Go.IntKind.u8 (orI Go.IntKind.i64 (192 : Int) (shrI Go.IntKind.i64 x6 6))))) :: ((UInt8.ofNat (Int.toNat (Go.IntKind.wrap Go.IntKind.u8 (orI Go.IntKind.i64 (128 : Int) (andI Go.IntKind.i64 x6 (63 : Int)))))) :: [])))) * 2)) then
        L16_3 n t0 (t3 ++ ((UInt8.ofNat (Int.toNat (Go.IntKind.wrap Go.IntKind.u8 (orI Go.IntKind.i64 (192 : Int) (shrI Go.IntKind.i64 x6 6))))) :: ((UInt8.ofNat (Int.toNat (Go.IntKind.wrap Go.IntKind.u8 (orI Go.IntKind.i64 (128 : Int) (andI Go.IntKind.i64 x6 (63 : Int)))))) :: []))) (Go.IntKind.wrap Go.IntKind.i64 (t4 + (1 : Int)))
        else none
      else
      bif (Go.Iv.ilt x6 (65536 : Int)) then
        bif (room (((List.length t3) + (List.length ((UInt8.ofNat (Int.toNat (Go.IntKind.wrap Go.IntKind.u8 (orI Go.IntKind.i64 (224 : Int) (shrI Go.IntKind.i64 x6 12))))) :: ((UInt8.ofNat (Int.toNat (Go.IntKind.wrap Go.IntKind.u8 (orI Go.IntKind.i64 (128 : Int) (andI Go.IntKind.i64 (shrI Go.IntKind.i64 x6 6) (63 : Int)))))) :: ((UInt8.ofNat (Int.toNat (Go.IntKind.wrap Go.IntKind.u8 (orI Go.IntKind.i64 (128 : Int) (andI Go.IntKind.i64 x6 (63 : Int)))))) :: []))))) * 2)) then
        L16_3 n t0 (t3 ++ ((UInt8.ofNat (Int.toNat (Go.IntKind.wrap Go.IntKind.u8 (orI Go.IntKind.i64 (224 : Int) (shrI Go.IntKind.i64 x6 12))))) :: ((UInt8.ofNat (Int.toNat (Go.IntKind.wrap Go.IntKind.u8 (orI Go.IntKind.i64 (128 : Int) (andI Go.IntKind.i64 (shrI Go.IntKind.i64 x6 6) (63 : Int)))))) :: ((UInt8.ofNat (Int.toNat (Go.IntKind.wrap Go.IntKind.u8 (orI Go.IntKind.i64 (128 : Int) (andI Go.IntKind.i64 x6 (63 : Int)))))) :: [])))) (Go.IntKind.wrap Go.IntKind.i64 (t4 + (1 : Int)))
        else none
      else
      bif (room (((List.length t3) + (List.length ((UInt8.ofNat (Int.toNat (Go.IntKind.wrap Go.IntKind.u8 (orI Go.IntKind.i64 (240 : Int) (shrI Go.IntKind.i64 x6 18))))) :: ((UInt8.ofNat (Int.toNat (Go.IntKind.wrap Go.IntKind.u8 (orI Go.IntKind.i64 (128 : Int) (andI Go.IntKind.i64 (shrI Go.IntKind.i64 x6 12) (63 : Int)))))) :: ((UInt8.ofNat (Int.toNat (Go.IntKind.wrap Go.IntKind.u8 (orI Go.IntKind.i64 (128 : Int) (andI Go.IntKind.i64 (shrI Go.IntKind.i64 x6 6) (63 : Int)))))) :: ((UInt8.ofNat (Int.toNat (Go.IntKind.wrap Go.IntKind.u8 (orI Go.IntKind.i64 (128 : Int) (andI Go.IntKind.i64 x6 (63 : Int)))))) :: [])))))) * 2)) then
      L16_3 n t0 (t3 ++ ((UInt8.ofNat (Int.toNat (Go.IntKind.wrap Go.IntKind.u8 (orI Go.IntKind.i64 (240 : Int) (shrI Go.IntKind.i64 x6 18))))) :: ((UInt8.ofNat (Int.toNat (Go.IntKind.wrap Go.IntKind.u8 (orI Go.IntKind.i64 (128 : Int) (andI Go.IntKind.i64 (shrI Go.IntKind.i64 x6 12) (63 : Int)))))) :: ((UInt8.ofNat (Int.toNat (Go.IntKind.wrap Go.IntKind.u8 (orI Go.IntKind.i64 (128 : Int) (andI Go.IntKind.i64 (shrI Go.IntKind.i64 x6 6) (63 : Int)))))) :: ((UInt8.ofNat (Int.toNat (Go.IntKind.wrap Go.IntKind.u8 (orI Go.IntKind.i64 (128 : Int) (andI Go.IntKind.i64 x6 (63 : Int)))))) :: []))))) (Go.IntKind.wrap Go.IntKind.i64 (t4 + (1 : Int)))
      else none
      else none
    else
    some ((t3, ()), ())
noncomputable def L16_3_it : LoopIt := ⟨16, 3, none, L16_3_T, [(.exit 0, L16_3_Xexit0)], 2, fun n x => L16_3 n x.1.1 x.1.2.1 x.1.2.2.1⟩
theorem L16_3_Xexit0_ok : L16_3_Xexit0.ok Go.Proofs.Tryd.prog hint := by
  intro p hp
  cases hp
theorem L16_3_T_ok : L16_3_T.ok Go.Proofs.Tryd.prog hint := by
  intro p hp
  cases hp
theorem L16_3_ok : ∀ n, LoopOK Go.Proofs.Tryd.prog hint shT L16_3_it n :=
  LoopOK.of (hk := fun β => (Known.mk [sameInts_it, pointsR_it, smallR_it, pointR_it, pairsR_it, unitsR_it, formR_it, isR_it, right_it, alive_it] [L14_4_it, L10_10_it, L19_3_it, L31_23_it, L21_3_it, L20_3_it, L20_7_65_it, L20_7_it, L25_4_it]).hk β) (sh := shT) (OneLoop.of (by kernel_rfl)) L16_3_T_ok ⟨⟨L16_3_Xexit0_ok, Nat.le_refl _, Nat.le_refl _⟩, trivial⟩ (fun m => KnownOK.hook (((((((((((((((((((KnownOK.nil.fn alive_ok).fn right_ok).loop L25_4_ok L25_4_T_ok).fn isR_ok).fn formR_ok).loop L20_7_ok L20_7_T_ok).loop L20_7_65_ok L20_7_65_T_ok).loop L20_3_ok L20_3_T_ok).fn unitsR_ok).loop L21_3_ok L21_3_T_ok).fn pairsR_ok).loop L31_23_ok L31_23_T_ok).fn pointR_ok).loop L19_3_ok L19_3_T_ok).fn smallR_ok).loop L10_10_ok L10_10_T_ok).fn pointsR_ok).loop L14_4_ok L14_4_T_ok).fn sameInts_ok) m)
    (fun _ => by kernel_rfl) (fun m x => by kernel_rfl)

noncomputable def bytesR (n : Nat) (l : List Int) : Option ((List UInt8) × Unit) :=
  Option.bind (L16_3 n l [] (0 : Int)) fun y8 =>
  some (y8.1.1, ())
noncomputable def bytesR_it : FnIt := ⟨16, [(false, (.slc (.int .i64)))], [(false, (.slc .byte))], 2, fun n x => bytesR n x.1⟩
theorem bytesR_ok (n : Nat) : FnOK Go.Proofs.Tryd.prog hint shT bytesR_it n :=
  FnOK.of (hk := fun β => (Known.mk [sameInts_it, pointsR_it, smallR_it, pointR_it, pairsR_it, unitsR_it, formR_it, isR_it, right_it, alive_it] [L16_3_it, L14_4_it, L10_10_it, L19_3_it, L31_23_it, L21_3_it, L20_3_it, L20_7_65_it, L20_7_it, L25_4_it]).hk β) (sh := shT) (fun m _ => KnownOK.hook ((((((((((((((((((((KnownOK.nil.fn alive_ok).fn right_ok).loop L25_4_ok L25_4_T_ok).fn isR_ok).fn formR_ok).loop L20_7_ok L20_7_T_ok).loop L20_7_65_ok L20_7_65_T_ok).loop L20_3_ok L20_3_T_ok).fn unitsR_ok).loop L21_3_ok L21_3_T_ok).fn pairsR_ok).loop L31_23_ok L31_23_T_ok).fn pointR_ok).loop L19_3_ok L19_3_T_ok).fn smallR_ok).loop L10_10_ok L10_10_T_ok).fn pointsR_ok).loop L14_4_ok L14_4_T_ok).fn sameInts_ok).loop L16_3_ok L16_3_T_ok) m) (fun x => by kernel_rfl)

noncomputable def L35_3_Xexit0 : Tm := ⟨[(5, .one (.int .i64))], [], 64, 64, 1000⟩
noncomputable def L35_3_T : Tm := ⟨[(0, .one (.lst .byte)), (1, .one (.bool)), (5, .one (.int .i64)), (9, .one (.int .i64)), (10, .one (.int .i64))], [], 64, 64, 1000⟩
noncomputable def L35_3 : Nat → (List UInt8) → Bool → Int → Int → Int → Option ((Int × Unit) × Unit)
  | 0, _, _, _, _, _ => none
  | n + 1, t0, t1, t5, t9, t10 =>
    bif (Go.Iv.ilt t10 t9) then
      bif (Go.Iv.ile (0 : Int) (Go.IntKind.wrap Go.IntKind.i64 ((Go.IntKind.wrap Go.IntKind.i64 ((len t0) - (1 : Int))) - t10))) then
      Option.bind (t0[(Int.toNat (Go.IntKind.wrap Go.IntKind.i64 ((Go.IntKind.wrap Go.IntKind.i64 ((len t0) - (1 : Int))) - t10)))]?) fun x4 =>
      bif t1 then
        bif (Go.Iv.ile (0 : Int) t10) then
        Option.bind (t0[(Int.toNat t10)]?) fun x5 =>
        L35_3 n t0 t1 (orI Go.IntKind.i64 (shlI Go.IntKind.i64 t5 8) (Go.IntKind.wrap Go.IntKind.i64 (ub x5))) t9 (Go.IntKind.wrap Go.IntKind.i64 (t10 + (1 : Int)))
        else none
      else
      L35_3 n t0 t1 (orI Go.IntKind.i64 (shlI Go.IntKind.i64 t5 8) (Go.IntKind.wrap Go.IntKind.i64 (ub x4))) t9 (Go.IntKind.wrap Go.IntKind.i64 (t10 + (1 : Int)))
      else none
    else
    some ((t5, ()), ())
noncomputable def L35_3_it : LoopIt := ⟨35, 3, none, L35_3_T, [(.exit 0, L35_3_Xexit0)], 0, fun n x => L35_3 n x.1.1 x.1.2.1 x.1.2.2.1 x.1.2.2.2.1 x.1.2.2.2.2.1⟩
theorem L35_3_Xexit0_ok : L35_3_Xexit0.ok Go.Proofs.Tryd.prog hint := by
  intro p hp
  cases hp
theorem L35_3_T_ok : L35_3_T.ok Go.Proofs.Tryd.prog hint := by
  intro p hp
  cases hp
theorem L35_3_ok : ∀ n, LoopOK Go.Proofs.Tryd.prog hint shT L35_3_it n :=
  LoopOK.of (hk := fun β => (Known.mk [bytesR_it, sameInts_it, pointsR_it, smallR_it, pointR_it, pairsR_it, unitsR_it, formR_it, isR_it, right_it, alive_it] [L16_3_it, L14_4_it, L10_10_it, L19_3_it, L31_23_it, L21_3_it, L20_3_it, L20_7_65_it, L20_7_it, L25_4_it]).hk β) (sh := shT) (OneLoop.of (by kernel_rfl)) L35_3_T_ok ⟨⟨L35_3_Xexit0_ok, Nat.le_refl _, Nat.le_refl _⟩, trivial⟩ (fun m => KnownOK.hook (((((((((((((((((((((KnownOK.nil.fn alive_ok).fn right_ok).loop L25_4_ok L25_4_T_ok).fn isR_ok).fn formR_ok).loop L20_7_ok L20_7_T_ok).loop L20_7_65_ok L20_7_65_T_ok).loop L20_3_ok L20_3_T_ok).fn unitsR_ok).loop L21_3_ok L21_3_T_ok).fn pairsR_ok).loop L31_23_ok L31_23_T_ok).fn pointR_ok).loop L19_3_ok L19_3_T_ok).fn smallR_ok).loop L10_10_ok L10_10_T_ok).fn pointsR_ok).loop L14_4_ok L14_4_T_ok).fn sameInts_ok).loop L16_3_ok L16_3_T_ok).fn bytesR_ok) m)
    (fun _ => by kernel_rfl) (fun m x => by kernel_rfl)

noncomputable def unit (n : Nat) (b : List UInt8) (great : Bool) : Option (Int × Unit) :=
  Option.bind (L35_3 (n + 1) b great (0 : Int) (len b) (0 : Int)) fun y6 =>
  some (y6.1.1, ())
noncomputable def unit_it : FnIt := ⟨35, [(false, (.slc .byte)), (false, .bool)], [(false, (.int .i64))], 1, fun n x => unit n x.1 x.2.1⟩
theorem unit_ok (n : Nat) : FnOK Go.Proofs.Tryd.prog hint shT unit_it n :=
  FnOK.of (hk := fun β => (Known.mk [bytesR_it, sameInts_it, pointsR_it, smallR_it, pointR_it, pairsR_it, unitsR_it, formR_it, isR_it, right_it, alive_it] [L35_3_it, L16_3_it, L14_4_it, L10_10_it, L19_3_it, L31_23_it, L21_3_it, L20_3_it, L20_7_65_it, L20_7_it, L25_4_it]).hk β) (sh := shT) (fun m _ => KnownOK.hook ((((((((((((((((((((((KnownOK.nil.fn alive_ok).fn right_ok).loop L25_4_ok L25_4_T_ok).fn isR_ok).fn formR_ok).loop L20_7_ok L20_7_T_ok).loop L20_7_65_ok L20_7_65_T_ok).loop L20_3_ok L20_3_T_ok).fn unitsR_ok).loop L21_3_ok L21_3_T_ok).fn pairsR_ok).loop L31_23_ok L31_23_T_ok).fn pointR_ok).loop L19_3_ok L19_3_T_ok).fn smallR_ok).loop L10_10_ok L10_10_T_ok).fn pointsR_ok).loop L14_4_ok L14_4_T_ok).fn sameInts_ok).loop L16_3_ok L16_3_T_ok).fn bytesR_ok).loop L35_3_ok L35_3_T_ok) m) (fun x => by kernel_rfl)

noncomputable def is (_n : Nat) (c : Int) : Option (Bool × Unit) :=
  bif (Go.Iv.ile (0 : Int) c) then
    bif (Go.Iv.ile c (1114111 : Int)) then
      bif (Go.Iv.ilt c (55296 : Int)) then
        some (Bool.true, ())
      else
      some ((Go.Iv.ile (57344 : Int) c), ())
    else
    some (Bool.false, ())
  else
  some (Bool.false, ())
noncomputable def is_it : FnIt := ⟨18, [(false, (.int .i64))], [(false, .bool)], 0, fun n x => is n x.1⟩
theorem is_ok (n : Nat) : FnOK Go.Proofs.Tryd.prog hint shT is_it n :=
  FnOK.of (hk := fun β => (Known.mk [unit_it, bytesR_it, sameInts_it, pointsR_it, smallR_it, pointR_it, pairsR_it, unitsR_it, formR_it, isR_it, right_it, alive_it] [L35_3_it, L16_3_it, L14_4_it, L10_10_it, L19_3_it, L31_23_it, L21_3_it, L20_3_it, L20_7_65_it, L20_7_it, L25_4_it]).hk β) (sh := shT) (fun m _ => KnownOK.hook (((((((((((((((((((((((KnownOK.nil.fn alive_ok).fn right_ok).loop L25_4_ok L25_4_T_ok).fn isR_ok).fn formR_ok).loop L20_7_ok L20_7_T_ok).loop L20_7_65_ok L20_7_65_T_ok).loop L20_3_ok L20_3_T_ok).fn unitsR_ok).loop L21_3_ok L21_3_T_ok).fn pairsR_ok).loop L31_23_ok L31_23_T_ok).fn pointR_ok).loop L19_3_ok L19_3_T_ok).fn smallR_ok).loop L10_10_ok L10_10_T_ok).fn pointsR_ok).loop L14_4_ok L14_4_T_ok).fn sameInts_ok).loop L16_3_ok L16_3_T_ok).fn bytesR_ok).loop L35_3_ok L35_3_T_ok).fn unit_ok) m) (fun x => by kernel_rfl)

noncomputable def drs (_n : Nat) (p : List UInt8) : Option (Int × (Int × Unit)) :=
  bif (Go.Iv.ilt (len p) (1 : Int)) then
    some ((65533 : Int), (0 : Int), ())
  else
  Option.bind (p[0]?) fun x0 =>
  bif (Go.Iv.ilt (ub x0) (256 : Int)) then
  Option.bind (Go.Proofs.YtjaiiojikollmaaDoor.tab0[(Int.toNat (ub x0))]?) fun x1 =>
  bif (Nat.ble (UInt8.toNat (240 : UInt8)) (UInt8.toNat x1)) then
    Option.bind (p[0]?) fun x2 =>
    some ((orI Go.IntKind.i32 (andNotI Go.IntKind.i32 (Go.IntKind.wrap Go.IntKind.i32 (ub x2)) (shrI Go.IntKind.i32 (shlI Go.IntKind.i32 (Go.IntKind.wrap Go.IntKind.i32 (ub x1)) 31) 31)) (andI Go.IntKind.i32 (65533 : Int) (shrI Go.IntKind.i32 (shlI Go.IntKind.i32 (Go.IntKind.wrap Go.IntKind.i32 (ub x1)) 31) 31))), (1 : Int), ())
  else
  bif (Go.Iv.ilt (ub (shrB x1 4)) (16 : Int)) then
  Option.bind (Go.Proofs.YtjaiiojikollmaaDoor.tab1[(Int.toNat (ub (shrB x1 4)))]?) fun x3 =>
  bif (Go.Iv.ilt (len p) (Go.IntKind.wrap Go.IntKind.i64 (ub (x1 &&& (7 : UInt8))))) then
    some ((65533 : Int), (1 : Int), ())
  else
  Option.bind (p[1]?) fun x4 =>
  bif (Nat.blt (UInt8.toNat x4) (UInt8.toNat x3.1)) then
    some ((65533 : Int), (1 : Int), ())
  else
  bif (Nat.blt (UInt8.toNat x3.2) (UInt8.toNat x4)) then
    some ((65533 : Int), (1 : Int), ())
  else
  bif (Go.Iv.ile (Go.IntKind.wrap Go.IntKind.i64 (ub (x1 &&& (7 : UInt8)))) (2 : Int)) then
    some ((orI Go.IntKind.i32 (shlI Go.IntKind.i32 (Go.IntKind.wrap Go.IntKind.i32 (ub (x0 &&& (31 : UInt8)))) 6) (Go.IntKind.wrap Go.IntKind.i32 (ub (x4 &&& (63 : UInt8))))), (2 : Int), ())
  else
  Option.bind (p[2]?) fun x5 =>
  bif (Nat.blt (UInt8.toNat x5) (UInt8.toNat (128 : UInt8))) then
    some ((65533 : Int), (1 : Int), ())
  else
  bif (Nat.blt (UInt8.toNat (191 : UInt8)) (UInt8.toNat x5)) then
    some ((65533 : Int), (1 : Int), ())
  else
  bif (Go.Iv.ile (Go.IntKind.wrap Go.IntKind.i64 (ub (x1 &&& (7 : UInt8)))) (3 : Int)) then
    some ((orI Go.IntKind.i32 (orI Go.IntKind.i32 (shlI Go.IntKind.i32 (Go.IntKind.wrap Go.IntKind.i32 (ub (x0 &&& (15 : UInt8)))) 12) (shlI Go.IntKind.i32 (Go.IntKind.wrap Go.IntKind.i32 (ub (x4 &&& (63 : UInt8)))) 6)) (Go.IntKind.wrap Go.IntKind.i32 (ub (x5 &&& (63 : UInt8))))), (3 : Int), ())
  else
  Option.bind (p[3]?) fun x6 =>
  bif (Nat.blt (UInt8.toNat x6) (UInt8.toNat (128 : UInt8))) then
    some ((65533 : Int), (1 : Int), ())
  else
  bif (Nat.blt (UInt8.toNat (191 : UInt8)) (UInt8.toNat x6)) then
    some ((65533 : Int), (1 : Int), ())
  else
  some ((orI Go.IntKind.i32 (orI Go.IntKind.i32 (orI Go.IntKind.i32 (shlI Go.IntKind.i32 (Go.IntKind.wrap Go.IntKind.i32 (ub (x0 &&& (7 : UInt8)))) 18) (shlI Go.IntKind.i32 (Go.IntKind.wrap Go.IntKind.i32 (ub (x4 &&& (63 : UInt8)))) 12)) (shlI Go.IntKind.i32 (Go.IntKind.wrap Go.IntKind.i32 (ub (x5 &&& (63 : UInt8)))) 6)) (Go.IntKind.wrap Go.IntKind.i32 (ub (x6 &&& (63 : UInt8))))), (4 : Int), ())
  else none
  else none
noncomputable def drs_it : FnIt := ⟨38, [(false, (.slc .byte))], [(false, (.int .i32)), (false, (.int .i64))], 0, fun n x => drs n x.1⟩
theorem drs_ok (n : Nat) : FnOK Go.Proofs.Tryd.prog hint shT drs_it n :=
  FnOK.of (hk := fun β => (Known.mk [is_it, unit_it, bytesR_it, sameInts_it, pointsR_it, smallR_it, pointR_it, pairsR_it, unitsR_it, formR_it, isR_it, right_it, alive_it] [L35_3_it, L16_3_it, L14_4_it, L10_10_it, L19_3_it, L31_23_it, L21_3_it, L20_3_it, L20_7_65_it, L20_7_it, L25_4_it]).hk β) (sh := shT) (fun m _ => KnownOK.hook ((((((((((((((((((((((((KnownOK.nil.fn alive_ok).fn right_ok).loop L25_4_ok L25_4_T_ok).fn isR_ok).fn formR_ok).loop L20_7_ok L20_7_T_ok).loop L20_7_65_ok L20_7_65_T_ok).loop L20_3_ok L20_3_T_ok).fn unitsR_ok).loop L21_3_ok L21_3_T_ok).fn pairsR_ok).loop L31_23_ok L31_23_T_ok).fn pointR_ok).loop L19_3_ok L19_3_T_ok).fn smallR_ok).loop L10_10_ok L10_10_T_ok).fn pointsR_ok).loop L14_4_ok L14_4_T_ok).fn sameInts_ok).loop L16_3_ok L16_3_T_ok).fn bytesR_ok).loop L35_3_ok L35_3_T_ok).fn unit_ok).fn is_ok) m) (fun x => by kernel_rfl)

noncomputable def L37_2_Xexit0 : Tm := ⟨[(0, .one (.lst .byte))], [], 64, 64, 1000⟩
noncomputable def L37_2_Xret : Tm := ⟨[(2, .one (.int .i32)), (3, .one (.int .i64))], [], 64, 64, 1000⟩
noncomputable def L37_2_T : Tm := ⟨[(0, .one (.lst .byte)), (6, .one (.lst .byte)), (7, .one (.int .i64)), (8, .one (.int .i64))], [], 64, 64, 1000⟩
noncomputable def L37_2 : Nat → (List UInt8) → (List UInt8) → Int → Int → Option ((((List UInt8) × Unit) × Unit) ⊕ ((Int × (Int × Unit)) × Unit))
  | 0, _, _, _, _ => none
  | _ + 1, t0, t6, t7, t8 =>
    bif (Go.Iv.ilt t8 t7) then
      bif (Go.Iv.ile (0 : Int) t8) then
      Option.bind (t6[(Int.toNat t8)]?) fun x2 =>
      bif (Nat.blt (UInt8.toNat x2) (UInt8.toNat (128 : UInt8))) then
        some (.inr (((Go.IntKind.wrap Go.IntKind.i32 (ub x2)), ((1 : Int), ())), ()))
      else
      some (.inl ((t0, ()), ()))
      else none
    else
    some (.inl ((t0, ()), ()))
noncomputable def L37_2_it : LoopIt := ⟨37, 2, none, L37_2_T, [(.exit 0, L37_2_Xexit0), (.ret, L37_2_Xret)], 0, fun n x => L37_2 n x.1.1 x.1.2.1 x.1.2.2.1 x.1.2.2.2.1⟩
theorem L37_2_Xexit0_ok : L37_2_Xexit0.ok Go.Proofs.Tryd.prog hint := by
  intro p hp
  cases hp
theorem L37_2_Xret_ok : L37_2_Xret.ok Go.Proofs.Tryd.prog hint := by
  intro p hp
  cases hp
theorem L37_2_T_ok : L37_2_T.ok Go.Proofs.Tryd.prog hint := by
  intro p hp
  cases hp
theorem L37_2_ok : ∀ n, LoopOK Go.Proofs.Tryd.prog hint shT L37_2_it n :=
  LoopOK.of (hk := fun β => (Known.mk [drs_it, is_it, unit_it, bytesR_it, sameInts_it, pointsR_it, smallR_it, pointR_it, pairsR_it, unitsR_it, formR_it, isR_it, right_it, alive_it] [L35_3_it, L16_3_it, L14_4_it, L10_10_it, L19_3_it, L31_23_it, L21_3_it, L20_3_it, L20_7_65_it, L20_7_it, L25_4_it]).hk β) (sh := shT) (OneLoop.of (by kernel_rfl)) L37_2_T_ok ⟨⟨L37_2_Xexit0_ok, Nat.le_refl _, Nat.le_refl _⟩, ⟨L37_2_Xret_ok, Nat.le_refl _, Nat.le_refl _⟩, trivial⟩ (fun m => KnownOK.hook (((((((((((((((((((((((((KnownOK.nil.fn alive_ok).fn right_ok).loop L25_4_ok L25_4_T_ok).fn isR_ok).fn formR_ok).loop L20_7_ok L20_7_T_ok).loop L20_7_65_ok L20_7_65_T_ok).loop L20_3_ok L20_3_T_ok).fn unitsR_ok).loop L21_3_ok L21_3_T_ok).fn pairsR_ok).loop L31_23_ok L31_23_T_ok).fn pointR_ok).loop L19_3_ok L19_3_T_ok).fn smallR_ok).loop L10_10_ok L10_10_T_ok).fn pointsR_ok).loop L14_4_ok L14_4_T_ok).fn sameInts_ok).loop L16_3_ok L16_3_T_ok).fn bytesR_ok).loop L35_3_ok L35_3_T_ok).fn unit_ok).fn is_ok).fn drs_ok) m)
    (fun _ => by kernel_rfl) (fun m x => by kernel_rfl)

noncomputable def dr (n : Nat) (p : List UInt8) : Option (Int × (Int × Unit)) :=
  Option.bind (L37_2 (n + 1) p p (len p) (0 : Int)) fun y3 =>
  match y3 with
    | .inl y4 =>
      Option.bind (drs n y4.1.1) fun y6 =>
      some (y6.1, y6.2.1, ())
    | .inr y5 =>
      some (y5.1.1, y5.1.2.1, ())
noncomputable def dr_it : FnIt := ⟨37, [(false, (.slc .byte))], [(false, (.int .i32)), (false, (.int .i64))], 1, fun n x => dr n x.1⟩
theorem dr_ok (n : Nat) : FnOK Go.Proofs.Tryd.prog hint shT dr_it n :=
  FnOK.of (hk := fun β => (Known.mk [drs_it, is_it, unit_it, bytesR_it, sameInts_it, pointsR_it, smallR_it, pointR_it, pairsR_it, unitsR_it, formR_it, isR_it, right_it, alive_it] [L37_2_it, L35_3_it, L16_3_it, L14_4_it, L10_10_it, L19_3_it, L31_23_it, L21_3_it, L20_3_it, L20_7_65_it, L20_7_it, L25_4_it]).hk β) (sh := shT) (fun m _ => KnownOK.hook ((((((((((((((((((((((((((KnownOK.nil.fn alive_ok).fn right_ok).loop L25_4_ok L25_4_T_ok).fn isR_ok).fn formR_ok).loop L20_7_ok L20_7_T_ok).loop L20_7_65_ok L20_7_65_T_ok).loop L20_3_ok L20_3_T_ok).fn unitsR_ok).loop L21_3_ok L21_3_T_ok).fn pairsR_ok).loop L31_23_ok L31_23_T_ok).fn pointR_ok).loop L19_3_ok L19_3_T_ok).fn smallR_ok).loop L10_10_ok L10_10_T_ok).fn pointsR_ok).loop L14_4_ok L14_4_T_ok).fn sameInts_ok).loop L16_3_ok L16_3_T_ok).fn bytesR_ok).loop L35_3_ok L35_3_T_ok).fn unit_ok).fn is_ok).fn drs_ok).loop L37_2_ok L37_2_T_ok) m) (fun x => by kernel_rfl)

noncomputable def L24_2_Xexit0 : Tm := ⟨[], [(64, .cells 51 [.int .i64, .int .i64, .int .i64, .int .i64, .int .i64, .int .i64] true)], 65, 65, 1001⟩
noncomputable def L24_2_Xret : Tm := ⟨[(4, .one (.bool))], [(64, .cells 51 [.int .i64, .int .i64, .int .i64, .int .i64, .int .i64, .int .i64] true)], 65, 65, 1001⟩
noncomputable def L24_2_T : Tm := ⟨[(1, .one (.lst .byte)), (8, .agg [.int .i64, .int .i64, .int .i64, .int .i64]), (9, .one (.int .i64))], [(64, .cells 51 [.int .i64, .int .i64, .int .i64, .int .i64, .int .i64, .int .i64] true)], 65, 65, 1001⟩
noncomputable def L24_2 : Nat → (List UInt8) → Int → Int → Int → Int → Int → Int → Int → Int → Int → Int → Int → Option ((Unit × ((Int × (Int × (Int × (Int × (Int × (Int × Unit)))))) × Unit)) ⊕ ((Bool × Unit) × ((Int × (Int × (Int × (Int × (Int × (Int × Unit)))))) × Unit)))
  | 0, _, _, _, _, _, _, _, _, _, _, _, _ => none
  | n + 1, t1, t8_0, t8_1, t8_2, t8_3, t9, c64_0, c64_1, c64_2, c64_3, c64_4, c64_5 =>
    bif (Go.Iv.ilt t9 (4 : Int)) then
      bif (t9 == (3 : Int)) then
        bif (t8_3 == (-(2 : Int))) then
          L24_2 n t1 t8_0 t8_1 t8_2 t8_3 (Go.IntKind.wrap Go.IntKind.i64 (t9 + (1 : Int))) c64_0 c64_1 c64_2 c64_3 c64_4 c64_5
        else
        bif (Go.Iv.ile (len t1) t9) then
          some (.inr ((Bool.false, ()), ((c64_0, (c64_1, (c64_2, (c64_3, (c64_4, (c64_5, ())))))), ())))
        else
        bif (t8_3 == (-(1 : Int))) then
          bif (Go.Iv.ile (0 : Int) t9) then
          Option.bind (t1[(Int.toNat t9)]?) fun x24 =>
          bif (x24 == (0 : UInt8)) then
            bif (x24 == (0 : UInt8)) then
              some (.inr ((Bool.false, ()), ((c64_0, (c64_1, (c64_2, (c64_3, (c64_4, (c64_5, ())))))), ())))
            else
            L24_2 n t1 t8_0 t8_1 t8_2 t8_3 (Go.IntKind.wrap Go.IntKind.i64 (t9 + (1 : Int))) c64_0 c64_1 c64_2 c64_3 c64_4 c64_5
          else
          bif (Go.Iv.ile (0 : Int) t8_3) then
            bif (Go.Iv.ile (0 : Int) t9) then
            Option.bind (t1[(Int.toNat t9)]?) fun x25 =>
            bif ((Go.IntKind.wrap Go.IntKind.i64 (ub x25)) != t8_3) then
              some (.inr ((Bool.false, ()), ((c64_0, (c64_1, (c64_2, (c64_3, (c64_4, (c64_5, ())))))), ())))
            else
            L24_2 n t1 t8_0 t8_1 t8_2 t8_3 (Go.IntKind.wrap Go.IntKind.i64 (t9 + (1 : Int))) c64_0 c64_1 c64_2 c64_3 c64_4 c64_5
            else none
          else
          L24_2 n t1 t8_0 t8_1 t8_2 t8_3 (Go.IntKind.wrap Go.IntKind.i64 (t9 + (1 : Int))) c64_0 c64_1 c64_2 c64_3 c64_4 c64_5
          else none
        else
        bif (Go.Iv.ile (0 : Int) t8_3) then
          bif (Go.Iv.ile (0 : Int) t9) then
          Option.bind (t1[(Int.toNat t9)]?) fun x26 =>
          bif ((Go.IntKind.wrap Go.IntKind.i64 (ub x26)) != t8_3) then
            some (.inr ((Bool.false, ()), ((c64_0, (c64_1, (c64_2, (c64_3, (c64_4, (c64_5, ())))))), ())))
          else
          L24_2 n t1 t8_0 t8_1 t8_2 t8_3 (Go.IntKind.wrap Go.IntKind.i64 (t9 + (1 : Int))) c64_0 c64_1 c64_2 c64_3 c64_4 c64_5
          else none
        else
        L24_2 n t1 t8_0 t8_1 t8_2 t8_3 (Go.IntKind.wrap Go.IntKind.i64 (t9 + (1 : Int))) c64_0 c64_1 c64_2 c64_3 c64_4 c64_5
      else
      bif (t9 == (2 : Int)) then
        bif (t8_2 == (-(2 : Int))) then
          L24_2 n t1 t8_0 t8_1 t8_2 t8_3 (Go.IntKind.wrap Go.IntKind.i64 (t9 + (1 : Int))) c64_0 c64_1 c64_2 c64_3 c64_4 c64_5
        else
        bif (Go.Iv.ile (len t1) t9) then
          some (.inr ((Bool.false, ()), ((c64_0, (c64_1, (c64_2, (c64_3, (c64_4, (c64_5, ())))))), ())))
        else
        bif (t8_2 == (-(1 : Int))) then
          bif (Go.Iv.ile (0 : Int) t9) then
          Option.bind (t1[(Int.toNat t9)]?) fun x27 =>
          bif (x27 == (0 : UInt8)) then
            bif (x27 == (0 : UInt8)) then
              some (.inr ((Bool.false, ()), ((c64_0, (c64_1, (c64_2, (c64_3, (c64_4, (c64_5, ())))))), ())))
            else
            L24_2 n t1 t8_0 t8_1 t8_2 t8_3 (Go.IntKind.wrap Go.IntKind.i64 (t9 + (1 : Int))) c64_0 c64_1 c64_2 c64_3 c64_4 c64_5
          else
          bif (Go.Iv.ile (0 : Int) t8_2) then
            bif (Go.Iv.ile (0 : Int) t9) then
            Option.bind (t1[(Int.toNat t9)]?) fun x28 =>
            bif ((Go.IntKind.wrap Go.IntKind.i64 (ub x28)) != t8_2) then
              some (.inr ((Bool.false, ()), ((c64_0, (c64_1, (c64_2, (c64_3, (c64_4, (c64_5, ())))))), ())))
            else
            L24_2 n t1 t8_0 t8_1 t8_2 t8_3 (Go.IntKind.wrap Go.IntKind.i64 (t9 + (1 : Int))) c64_0 c64_1 c64_2 c64_3 c64_4 c64_5
            else none
          else
          L24_2 n t1 t8_0 t8_1 t8_2 t8_3 (Go.IntKind.wrap Go.IntKind.i64 (t9 + (1 : Int))) c64_0 c64_1 c64_2 c64_3 c64_4 c64_5
          else none
        else
        bif (Go.Iv.ile (0 : Int) t8_2) then
          bif (Go.Iv.ile (0 : Int) t9) then
          Option.bind (t1[(Int.toNat t9)]?) fun x29 =>
          bif ((Go.IntKind.wrap Go.IntKind.i64 (ub x29)) != t8_2) then
            some (.inr ((Bool.false, ()), ((c64_0, (c64_1, (c64_2, (c64_3, (c64_4, (c64_5, ())))))), ())))
          else
          L24_2 n t1 t8_0 t8_1 t8_2 t8_3 (Go.IntKind.wrap Go.IntKind.i64 (t9 + (1 : Int))) c64_0 c64_1 c64_2 c64_3 c64_4 c64_5
          else none
        else
        L24_2 n t1 t8_0 t8_1 t8_2 t8_3 (Go.IntKind.wrap Go.IntKind.i64 (t9 + (1 : Int))) c64_0 c64_1 c64_2 c64_3 c64_4 c64_5
      else
      bif (t9 == (1 : Int)) then
        bif (t8_1 == (-(2 : Int))) then
          L24_2 n t1 t8_0 t8_1 t8_2 t8_3 (Go.IntKind.wrap Go.IntKind.i64 (t9 + (1 : Int))) c64_0 c64_1 c64_2 c64_3 c64_4 c64_5
        else
        bif (Go.Iv.ile (len t1) t9) then
          some (.inr ((Bool.false, ()), ((c64_0, (c64_1, (c64_2, (c64_3, (c64_4, (c64_5, ())))))), ())))
        else
        bif (t8_1 == (-(1 : Int))) then
          bif (Go.Iv.ile (0 : Int) t9) then
          Option.bind (t1[(Int.toNat t9)]?) fun x30 =>
          bif (x30 == (0 : UInt8)) then
            bif (x30 == (0 : UInt8)) then
              some (.inr ((Bool.false, ()), ((c64_0, (c64_1, (c64_2, (c64_3, (c64_4, (c64_5, ())))))), ())))
            else
            L24_2 n t1 t8_0 t8_1 t8_2 t8_3 (Go.IntKind.wrap Go.IntKind.i64 (t9 + (1 : Int))) c64_0 c64_1 c64_2 c64_3 c64_4 c64_5
          else
          bif (Go.Iv.ile (0 : Int) t8_1) then
            bif (Go.Iv.ile (0 : Int) t9) then
            Option.bind (t1[(Int.toNat t9)]?) fun x31 =>
            bif ((Go.IntKind.wrap Go.IntKind.i64 (ub x31)) != t8_1) then
              some (.inr ((Bool.false, ()), ((c64_0, (c64_1, (c64_2, (c64_3, (c64_4, (c64_5, ())))))), ())))
            else
            L24_2 n t1 t8_0 t8_1 t8_2 t8_3 (Go.IntKind.wrap Go.IntKind.i64 (t9 + (1 : Int))) c64_0 c64_1 c64_2 c64_3 c64_4 c64_5
            else none
          else
          L24_2 n t1 t8_0 t8_1 t8_2 t8_3 (Go.IntKind.wrap Go.IntKind.i64 (t9 + (1 : Int))) c64_0 c64_1 c64_2 c64_3 c64_4 c64_5
          else none
        else
        bif (Go.Iv.ile (0 : Int) t8_1) then
          bif (Go.Iv.ile (0 : Int) t9) then
          Option.bind (t1[(Int.toNat t9)]?) fun x32 =>
          bif ((Go.IntKind.wrap Go.IntKind.i64 (ub x32)) != t8_1) then
            some (.inr ((Bool.false, ()), ((c64_0, (c64_1, (c64_2, (c64_3, (c64_4, (c64_5, ())))))), ())))
          else
          L24_2 n t1 t8_0 t8_1 t8_2 t8_3 (Go.IntKind.wrap Go.IntKind.i64 (t9 + (1 : Int))) c64_0 c64_1 c64_2 c64_3 c64_4 c64_5
          else none
        else
        L24_2 n t1 t8_0 t8_1 t8_2 t8_3 (Go.IntKind.wrap Go.IntKind.i64 (t9 + (1 : Int))) c64_0 c64_1 c64_2 c64_3 c64_4 c64_5
      else
      bif (t9 == (0 : Int)) then
        bif (t8_0 == (-(2 : Int))) then
          L24_2 n t1 t8_0 t8_1 t8_2 t8_3 (Go.IntKind.wrap Go.IntKind.i64 (t9 + (1 : Int))) c64_0 c64_1 c64_2 c64_3 c64_4 c64_5
        else
        bif (Go.Iv.ile (len t1) t9) then
          some (.inr ((Bool.false, ()), ((c64_0, (c64_1, (c64_2, (c64_3, (c64_4, (c64_5, ())))))), ())))
        else
        bif (t8_0 == (-(1 : Int))) then
          bif (Go.Iv.ile (0 : Int) t9) then
          Option.bind (t1[(Int.toNat t9)]?) fun x33 =>
          bif (x33 == (0 : UInt8)) then
            bif (x33 == (0 : UInt8)) then
              some (.inr ((Bool.false, ()), ((c64_0, (c64_1, (c64_2, (c64_3, (c64_4, (c64_5, ())))))), ())))
            else
            L24_2 n t1 t8_0 t8_1 t8_2 t8_3 (Go.IntKind.wrap Go.IntKind.i64 (t9 + (1 : Int))) c64_0 c64_1 c64_2 c64_3 c64_4 c64_5
          else
          bif (Go.Iv.ile (0 : Int) t8_0) then
            bif (Go.Iv.ile (0 : Int) t9) then
            Option.bind (t1[(Int.toNat t9)]?) fun x34 =>
            bif ((Go.IntKind.wrap Go.IntKind.i64 (ub x34)) != t8_0) then
              some (.inr ((Bool.false, ()), ((c64_0, (c64_1, (c64_2, (c64_3, (c64_4, (c64_5, ())))))), ())))
            else
            L24_2 n t1 t8_0 t8_1 t8_2 t8_3 (Go.IntKind.wrap Go.IntKind.i64 (t9 + (1 : Int))) c64_0 c64_1 c64_2 c64_3 c64_4 c64_5
            else none
          else
          L24_2 n t1 t8_0 t8_1 t8_2 t8_3 (Go.IntKind.wrap Go.IntKind.i64 (t9 + (1 : Int))) c64_0 c64_1 c64_2 c64_3 c64_4 c64_5
          else none
        else
        bif (Go.Iv.ile (0 : Int) t8_0) then
          bif (Go.Iv.ile (0 : Int) t9) then
          Option.bind (t1[(Int.toNat t9)]?) fun x35 =>
          bif ((Go.IntKind.wrap Go.IntKind.i64 (ub x35)) != t8_0) then
            some (.inr ((Bool.false, ()), ((c64_0, (c64_1, (c64_2, (c64_3, (c64_4, (c64_5, ())))))), ())))
          else
          L24_2 n t1 t8_0 t8_1 t8_2 t8_3 (Go.IntKind.wrap Go.IntKind.i64 (t9 + (1 : Int))) c64_0 c64_1 c64_2 c64_3 c64_4 c64_5
          else none
        else
        L24_2 n t1 t8_0 t8_1 t8_2 t8_3 (Go.IntKind.wrap Go.IntKind.i64 (t9 + (1 : Int))) c64_0 c64_1 c64_2 c64_3 c64_4 c64_5
      else
      none
    else
    some (.inl ((), ((c64_0, (c64_1, (c64_2, (c64_3, (c64_4, (c64_5, ())))))), ())))
noncomputable def L24_2_it : LoopIt := ⟨24, 2, none, L24_2_T, [(.exit 0, L24_2_Xexit0), (.ret, L24_2_Xret)], 0, fun n x => L24_2 n x.1.1 x.1.2.1.1 x.1.2.1.2.1 x.1.2.1.2.2.1 x.1.2.1.2.2.2.1 x.1.2.2.1 x.2.1.1 x.2.1.2.1 x.2.1.2.2.1 x.2.1.2.2.2.1 x.2.1.2.2.2.2.1 x.2.1.2.2.2.2.2.1⟩
theorem L24_2_Xexit0_ok : L24_2_Xexit0.ok Go.Proofs.Tryd.prog hint := by
  intro p hp
  simp only [L24_2_Xexit0, List.mem_cons, List.not_mem_nil, or_false] at hp
  rcases hp with rfl
  · trivial
theorem L24_2_Xret_ok : L24_2_Xret.ok Go.Proofs.Tryd.prog hint := by
  intro p hp
  simp only [L24_2_Xret, List.mem_cons, List.not_mem_nil, or_false] at hp
  rcases hp with rfl
  · trivial
theorem L24_2_T_ok : L24_2_T.ok Go.Proofs.Tryd.prog hint := by
  intro p hp
  simp only [L24_2_T, List.mem_cons, List.not_mem_nil, or_false] at hp
  rcases hp with rfl
  · trivial
theorem L24_2_ok : ∀ n, LoopOK Go.Proofs.Tryd.prog hint shT L24_2_it n :=
  LoopOK.of (hk := fun β => (Known.mk [dr_it, drs_it, is_it, unit_it, bytesR_it, sameInts_it, pointsR_it, smallR_it, pointR_it, pairsR_it, unitsR_it, formR_it, isR_it, right_it, alive_it] [L37_2_it, L35_3_it, L16_3_it, L14_4_it, L10_10_it, L19_3_it, L31_23_it, L21_3_it, L20_3_it, L20_7_65_it, L20_7_it, L25_4_it]).hk β) (sh := shT) (OneLoop.of (by kernel_rfl)) L24_2_T_ok ⟨⟨L24_2_Xexit0_ok, Nat.le_refl _, Nat.le_refl _⟩, ⟨L24_2_Xret_ok, Nat.le_refl _, Nat.le_refl _⟩, trivial⟩ (fun m => KnownOK.hook (((((((((((((((((((((((((((KnownOK.nil.fn alive_ok).fn right_ok).loop L25_4_ok L25_4_T_ok).fn isR_ok).fn formR_ok).loop L20_7_ok L20_7_T_ok).loop L20_7_65_ok L20_7_65_T_ok).loop L20_3_ok L20_3_T_ok).fn unitsR_ok).loop L21_3_ok L21_3_T_ok).fn pairsR_ok).loop L31_23_ok L31_23_T_ok).fn pointR_ok).loop L19_3_ok L19_3_T_ok).fn smallR_ok).loop L10_10_ok L10_10_T_ok).fn pointsR_ok).loop L14_4_ok L14_4_T_ok).fn sameInts_ok).loop L16_3_ok L16_3_T_ok).fn bytesR_ok).loop L35_3_ok L35_3_T_ok).fn unit_ok).fn is_ok).fn drs_ok).loop L37_2_ok L37_2_T_ok).fn dr_ok) m)
    (fun _ => by kernel_rfl) (fun m x => by kernel_rfl)

noncomputable def fits (n : Nat) (r : (Int × (Int × (Int × (Int × (Int × Int)))))) (b : List UInt8) : Option (Bool × Unit) :=
  Option.bind (L24_2 (n + 1) b r.2.2.1 r.2.2.2.1 r.2.2.2.2.1 r.2.2.2.2.2 (0 : Int) r.1 r.2.1 r.2.2.1 r.2.2.2.1 r.2.2.2.2.1 r.2.2.2.2.2) fun y36 =>
  match y36 with
    | .inl _ =>
      some (Bool.true, ())
    | .inr y38 =>
      some (y38.1.1, ())
noncomputable def fits_it : FnIt := ⟨24, [(true, (.cons (.int .i64) (.cons (.int .i64) (.cons (.int .i64) (.cons (.int .i64) (.cons (.int .i64) (.int .i64))))))), (false, (.slc .byte))], [(false, .bool)], 1, fun n x => fits n x.1 x.2.1⟩
theorem fits_ok (n : Nat) : FnOK Go.Proofs.Tryd.prog hint shT fits_it n :=
  FnOK.of (hk := fun β => (Known.mk [dr_it, drs_it, is_it, unit_it, bytesR_it, sameInts_it, pointsR_it, smallR_it, pointR_it, pairsR_it, unitsR_it, formR_it, isR_it, right_it, alive_it] [L24_2_it, L37_2_it, L35_3_it, L16_3_it, L14_4_it, L10_10_it, L19_3_it, L31_23_it, L21_3_it, L20_3_it, L20_7_65_it, L20_7_it, L25_4_it]).hk β) (sh := shT) (fun m _ => KnownOK.hook ((((((((((((((((((((((((((((KnownOK.nil.fn alive_ok).fn right_ok).loop L25_4_ok L25_4_T_ok).fn isR_ok).fn formR_ok).loop L20_7_ok L20_7_T_ok).loop L20_7_65_ok L20_7_65_T_ok).loop L20_3_ok L20_3_T_ok).fn unitsR_ok).loop L21_3_ok L21_3_T_ok).fn pairsR_ok).loop L31_23_ok L31_23_T_ok).fn pointR_ok).loop L19_3_ok L19_3_T_ok).fn smallR_ok).loop L10_10_ok L10_10_T_ok).fn pointsR_ok).loop L14_4_ok L14_4_T_ok).fn sameInts_ok).loop L16_3_ok L16_3_T_ok).fn bytesR_ok).loop L35_3_ok L35_3_T_ok).fn unit_ok).fn is_ok).fn drs_ok).loop L37_2_ok L37_2_T_ok).fn dr_ok).loop L24_2_ok L24_2_T_ok) m) (fun x => by kernel_rfl)

noncomputable def L11_2_Xexit0 : Tm := ⟨[], [], 65, 65, 1001⟩
noncomputable def L11_2_Xret : Tm := ⟨[(2, .one (.int .i64)), (3, .one (.int .i64))], [], 65, 65, 1001⟩
noncomputable def L11_2_T : Tm := ⟨[(0, .one (.lst .byte)), (6, .one (.all 65 51 (.cons (.int .i64) (.cons (.int .i64) (.cons (.int .i64) (.cons (.int .i64) (.cons (.int .i64) (.int .i64)))))) false)), (7, .one (.int .i64)), (8, .one (.int .i64))], [], 65, 66, 1001⟩
noncomputable def L11_2 : Nat → (List UInt8) → (List (Int × (Int × (Int × (Int × (Int × Int)))))) → Int → Int → Option ((Unit × Unit) ⊕ ((Int × (Int × Unit)) × Unit))
  | 0, _, _, _, _ => none
  | n + 1, t0, t6, t7, t8 =>
    bif (Go.Iv.ilt t8 t7) then
      bif ((Go.Iv.ile (0 : Int) t8) && (Go.Iv.ilt t8 (len t6))) then
      Option.bind (t6[(Int.toNat t8)]?) fun x4 =>
      Option.bind (fits (n + 1) (x4.1, (x4.2.1, (x4.2.2.1, (x4.2.2.2.1, (x4.2.2.2.2.1, x4.2.2.2.2.2))))) t0) fun y5 =>
      bif y5.1 then
        some (.inr ((x4.1, (x4.2.1, ())), ()))
      else
      L11_2 n t0 t6 t7 (Go.IntKind.wrap Go.IntKind.i64 (t8 + (1 : Int)))
      else none
    else
    some (.inl ((), ()))
noncomputable def L11_2_it : LoopIt := ⟨11, 2, none, L11_2_T, [(.exit 0, L11_2_Xexit0), (.ret, L11_2_Xret)], 2, fun n x => L11_2 n x.1.1 x.1.2.1 x.1.2.2.1 x.1.2.2.2.1⟩
theorem L11_2_Xexit0_ok : L11_2_Xexit0.ok Go.Proofs.Tryd.prog hint := by
  intro p hp
  cases hp
theorem L11_2_Xret_ok : L11_2_Xret.ok Go.Proofs.Tryd.prog hint := by
  intro p hp
  cases hp
theorem L11_2_T_ok : L11_2_T.ok Go.Proofs.Tryd.prog hint := by
  intro p hp
  cases hp
theorem L11_2_ok : ∀ n, LoopOK Go.Proofs.Tryd.prog hint shT L11_2_it n :=
  LoopOK.of (hk := fun β => (Known.mk [fits_it, dr_it, drs_it, is_it, unit_it, bytesR_it, sameInts_it, pointsR_it, smallR_it, pointR_it, pairsR_it, unitsR_it, formR_it, isR_it, right_it, alive_it] [L24_2_it, L37_2_it, L35_3_it, L16_3_it, L14_4_it, L10_10_it, L19_3_it, L31_23_it, L21_3_it, L20_3_it, L20_7_65_it, L20_7_it, L25_4_it]).hk β) (sh := shT) (OneLoop.of (by kernel_rfl)) L11_2_T_ok ⟨⟨L11_2_Xexit0_ok, Nat.le_refl _, Nat.le_refl _⟩, ⟨L11_2_Xret_ok, Nat.le_refl _, Nat.le_refl _⟩, trivial⟩ (fun m => KnownOK.hook (((((((((((((((((((((((((((((KnownOK.nil.fn alive_ok).fn right_ok).loop L25_4_ok L25_4_T_ok).fn isR_ok).fn formR_ok).loop L20_7_ok L20_7_T_ok).loop L20_7_65_ok L20_7_65_T_ok).loop L20_3_ok L20_3_T_ok).fn unitsR_ok).loop L21_3_ok L21_3_T_ok).fn pairsR_ok).loop L31_23_ok L31_23_T_ok).fn pointR_ok).loop L19_3_ok L19_3_T_ok).fn smallR_ok).loop L10_10_ok L10_10_T_ok).fn pointsR_ok).loop L14_4_ok L14_4_T_ok).fn sameInts_ok).loop L16_3_ok L16_3_T_ok).fn bytesR_ok).loop L35_3_ok L35_3_T_ok).fn unit_ok).fn is_ok).fn drs_ok).loop L37_2_ok L37_2_T_ok).fn dr_ok).loop L24_2_ok L24_2_T_ok).fn fits_ok) m)
    (fun _ => by kernel_rfl) (fun m x => by kernel_rfl)

noncomputable def form (n : Nat) (b : List UInt8) : Option (Int × (Int × Unit)) :=
  Option.bind (L11_2 n b (((4 : Int), ((4 : Int), ((0 : Int), ((0 : Int), ((254 : Int), (255 : Int)))))) :: (((5 : Int), ((4 : Int), ((255 : Int), ((254 : Int), ((0 : Int), (0 : Int)))))) :: (((2 : Int), ((2 : Int), ((254 : Int), ((255 : Int), ((-(2 : Int)), (-(2 : Int))))))) :: (((3 : Int), ((2 : Int), ((255 : Int), ((254 : Int), ((-(2 : Int)), (-(2 : Int))))))) :: (((1 : Int), ((3 : Int), ((239 : Int), ((187 : Int), ((191 : Int), (-(2 : Int))))))) :: (((4 : Int), ((0 : Int), ((0 : Int), ((0 : Int), ((0 : Int), (-(1 : Int))))))) :: (((5 : Int), ((0 : Int), ((-(1 : Int)), ((0 : Int), ((0 : Int), (0 : Int)))))) :: (((2 : Int), ((0 : Int), ((0 : Int), ((-(1 : Int)), ((-(2 : Int)), (-(2 : Int))))))) :: (((3 : Int), ((0 : Int), ((-(1 : Int)), ((0 : Int), ((-(2 : Int)), (-(2 : Int))))))) :: []))))))))) (9 : Int) (0 : Int)) fun y6 =>
  match y6 with
    | .inl _ =>
      some ((1 : Int), (0 : Int), ())
    | .inr y8 =>
      some (y8.1.1, y8.1.2.1, ())
noncomputable def form_it : FnIt := ⟨11, [(false, (.slc .byte))], [(false, (.int .i64)), (false, (.int .i64))], 2, fun n x => form n x.1⟩
theorem form_ok (n : Nat) : FnOK Go.Proofs.Tryd.prog hint shT form_it n :=
  FnOK.of (hk := fun β => (Known.mk [fits_it, dr_it, drs_it, is_it, unit_it, bytesR_it, sameInts_it, pointsR_it, smallR_it, pointR_it, pairsR_it, unitsR_it, formR_it, isR_it, right_it, alive_it] [L11_2_it, L24_2_it, L37_2_it, L35_3_it, L16_3_it, L14_4_it, L10_10_it, L19_3_it, L31_23_it, L21_3_it, L20_3_it, L20_7_65_it, L20_7_it, L25_4_it]).hk β) (sh := shT) (fun m _ => KnownOK.hook ((((((((((((((((((((((((((((((KnownOK.nil.fn alive_ok).fn right_ok).loop L25_4_ok L25_4_T_ok).fn isR_ok).fn formR_ok).loop L20_7_ok L20_7_T_ok).loop L20_7_65_ok L20_7_65_T_ok).loop L20_3_ok L20_3_T_ok).fn unitsR_ok).loop L21_3_ok L21_3_T_ok).fn pairsR_ok).loop L31_23_ok L31_23_T_ok).fn pointR_ok).loop L19_3_ok L19_3_T_ok).fn smallR_ok).loop L10_10_ok L10_10_T_ok).fn pointsR_ok).loop L14_4_ok L14_4_T_ok).fn sameInts_ok).loop L16_3_ok L16_3_T_ok).fn bytesR_ok).loop L35_3_ok L35_3_T_ok).fn unit_ok).fn is_ok).fn drs_ok).loop L37_2_ok L37_2_T_ok).fn dr_ok).loop L24_2_ok L24_2_T_ok).fn fits_ok).loop L11_2_ok L11_2_T_ok) m) (fun x => by kernel_rfl)

noncomputable def L34_0_Xexit0 : Tm := ⟨[(0, .one (.fix (Go.Gv.TV.yld 75))), (1, .one (.fix (Go.Gv.TV.ptr 72 0)))], [(64, .cells 24 [.fix (Go.Gv.TV.raw (Go.Value.slice (Option.none) 0 0))] true), (65, .cells 25 [.int .i64] true), (66, .cells 24 [.all 76 3 (.int .i64) true] true), (67, .cells 22 [.lst .byte] true), (68, .cells 4 [.bool] true), (69, .loop 9 Go.LoopState.ready (Option.none) (fiIn Go.Proofs.Tryd.prog hint 9) [(2, .one (.fix (Go.Gv.TV.ptr 64 0))), (3, .one (.fix (Go.Gv.TV.ptr 65 0))), (6, .one (.fix (Go.Gv.TV.ptr 66 0)))] (rangeIn Go.Proofs.Tryd.prog 9 7).1 (rangeIn Go.Proofs.Tryd.prog 9 7).2.1 (rangeIn Go.Proofs.Tryd.prog 9 7).2.2), (70, .cells 37 [.fix (Go.Gv.TV.yld 69)] true), (71, .cells 3 [.int .i64] true), (72, .cells 22 [.lst .byte] true), (73, .cells 3 [.int .i64] true), (74, .cells 4 [.bool] true), (75, .loop 33 Go.LoopState.ready (Option.none) (fiIn Go.Proofs.Tryd.prog hint 33) [(3, .one (.fix (Go.Gv.TV.ptr 70 0))), (4, .one (.fix (Go.Gv.TV.ptr 71 0)))] (rangeIn Go.Proofs.Tryd.prog 33 4).1 (rangeIn Go.Proofs.Tryd.prog 33 4).2.1 (rangeIn Go.Proofs.Tryd.prog 33 4).2.2)], 76, 77, 1013⟩
noncomputable def L34_0_Xret : Tm := ⟨[], [(64, .cells 24 [.fix (Go.Gv.TV.raw (Go.Value.slice (Option.none) 0 0))] true), (65, .cells 25 [.int .i64] true), (66, .cells 24 [.all 76 3 (.int .i64) true] true), (67, .cells 22 [.lst .byte] true), (68, .cells 4 [.bool] true), (69, .loop 9 Go.LoopState.done (Option.some Go.Code.ret) (fiIn Go.Proofs.Tryd.prog hint 9) [(2, .one (.fix (Go.Gv.TV.ptr 64 0))), (3, .one (.fix (Go.Gv.TV.ptr 65 0))), (6, .one (.fix (Go.Gv.TV.ptr 66 0)))] (rangeIn Go.Proofs.Tryd.prog 9 7).1 (rangeIn Go.Proofs.Tryd.prog 9 7).2.1 (rangeIn Go.Proofs.Tryd.prog 9 7).2.2), (70, .cells 37 [.fix (Go.Gv.TV.yld 69)] true), (71, .cells 3 [.int .i64] true), (72, .cells 22 [.lst .byte] true), (73, .cells 3 [.int .i64] true), (74, .cells 4 [.bool] true), (75, .loop 33 Go.LoopState.done (Option.some Go.Code.ret) (fiIn Go.Proofs.Tryd.prog hint 33) [(3, .one (.fix (Go.Gv.TV.ptr 70 0))), (4, .one (.fix (Go.Gv.TV.ptr 71 0)))] (rangeIn Go.Proofs.Tryd.prog 33 4).1 (rangeIn Go.Proofs.Tryd.prog 33 4).2.1 (rangeIn Go.Proofs.Tryd.prog 33 4).2.2)], 76, 77, 1013⟩
noncomputable def L34_0_T : Tm := ⟨[(0, .one (.fix (Go.Gv.TV.yld 75))), (1, .one (.fix (Go.Gv.TV.ptr 72 0))), (2, .one (.fix (Go.Gv.TV.ptr 73 0))), (3, .one (.fix (Go.Gv.TV.ptr 74 0)))], [(64, .cells 24 [.fix (Go.Gv.TV.raw (Go.Value.slice (Option.none) 0 0))] true), (65, .cells 25 [.int .i64] true), (66, .cells 24 [.all 76 3 (.int .i64) true] true), (67, .cells 22 [.lst .byte] true), (68, .cells 4 [.bool] true), (69, .loop 9 Go.LoopState.ready (Option.none) (fiIn Go.Proofs.Tryd.prog hint 9) [(2, .one (.fix (Go.Gv.TV.ptr 64 0))), (3, .one (.fix (Go.Gv.TV.ptr 65 0))), (6, .one (.fix (Go.Gv.TV.ptr 66 0)))] (rangeIn Go.Proofs.Tryd.prog 9 7).1 (rangeIn Go.Proofs.Tryd.prog 9 7).2.1 (rangeIn Go.Proofs.Tryd.prog 9 7).2.2), (70, .cells 37 [.fix (Go.Gv.TV.yld 69)] true), (71, .cells 3 [.int .i64] true), (72, .cells 22 [.lst .byte] true), (73, .cells 3 [.int .i64] true), (74, .cells 4 [.bool] true), (75, .loop 33 Go.LoopState.ready (Option.none) (fiIn Go.Proofs.Tryd.prog hint 33) [(3, .one (.fix (Go.Gv.TV.ptr 70 0))), (4, .one (.fix (Go.Gv.TV.ptr 71 0)))] (rangeIn Go.Proofs.Tryd.prog 33 4).1 (rangeIn Go.Proofs.Tryd.prog 33 4).2.1 (rangeIn Go.Proofs.Tryd.prog 33 4).2.2)], 76, 77, 1013⟩
noncomputable def L34_0 : Nat → Int → (List Int) → (List UInt8) → Bool → Int → (List UInt8) → Int → Bool → Option (((Unit × (Unit × Unit)) × ((Unit × Unit) × ((Int × Unit) × (((List Int) × Unit) × (((List UInt8) × Unit) × ((Bool × Unit) × ((Unit × (Unit × (Unit × Unit))) × ((Unit × Unit) × ((Int × Unit) × (((List UInt8) × Unit) × ((Int × Unit) × ((Bool × Unit) × ((Unit × (Unit × Unit)) × Unit))))))))))))) ⊕ (Unit × ((Unit × Unit) × ((Int × Unit) × (((List Int) × Unit) × (((List UInt8) × Unit) × ((Bool × Unit) × ((Unit × (Unit × (Unit × Unit))) × ((Unit × Unit) × ((Int × Unit) × (((List UInt8) × Unit) × ((Int × Unit) × ((Bool × Unit) × ((Unit × (Unit × Unit)) × Unit))))))))))))))
  | 0, _, _, _, _, _, _, _, _ => none
  | n + 1, c65_0, c66_0, c67_0, c68_0, c71_0, c72_0, c73_0, c74_0 =>
    bif (Go.Iv.ile c73_0 (len c72_0)) then
      bif ((Go.Iv.ile (0 : Int) c73_0) && (Go.Iv.ile c73_0 (len c72_0))) then
      Option.bind (unit (n + 2) (List.take ((Int.toNat c73_0) - 0) (List.drop 0 c72_0)) c74_0) fun y34 =>
      bif (Go.Iv.ilt (0 : Int) c71_0) then
        bif (Go.Iv.ile (56320 : Int) y34.1) then
          bif (Go.Iv.ilt y34.1 (57344 : Int)) then
            Option.bind (is (n + 1) (Go.IntKind.wrap Go.IntKind.i64 ((Go.IntKind.wrap Go.IntKind.i64 ((Go.IntKind.wrap Go.IntKind.i64 ((65536 : Int) + (shlI Go.IntKind.i64 (Go.IntKind.wrap Go.IntKind.i64 (c71_0 - (55296 : Int))) 10))) + y34.1)) - (56320 : Int)))) fun y35 =>
            bif (!y35.1) then
              some (.inr ((), (((), ()), (((4 : Int), ()), ((c66_0, ()), ((c67_0, ()), ((c68_0, ()), (((), ((), ((), ()))), (((), ()), (((0 : Int), ()), ((c72_0, ()), ((c73_0, ()), ((c74_0, ()), (((), ((), ())), ()))))))))))))))
            else
            bif (room (((List.length c66_0) + (List.length ((Go.IntKind.wrap Go.IntKind.i64 ((Go.IntKind.wrap Go.IntKind.i64 ((Go.IntKind.wrap Go.IntKind.i64 ((65536 : Int) + (shlI Go.IntKind.i64 (Go.IntKind.wrap Go.IntKind.i64 (c71_0 - (55296 : Int))) 10))) + y34.1)) - (56320 : Int))) :: []))) * 9)) then
            bif ((Go.Iv.ile (0 : Int) c73_0) && (Go.Iv.ile c73_0 (len c72_0))) then
            L34_0 n c65_0 (c66_0 ++ ((Go.IntKind.wrap Go.IntKind.i64 ((Go.IntKind.wrap Go.IntKind.i64 ((Go.IntKind.wrap Go.IntKind.i64 ((65536 : Int) + (shlI Go.IntKind.i64 (Go.IntKind.wrap Go.IntKind.i64 (c71_0 - (55296 : Int))) 10))) + y34.1)) - (56320 : Int))) :: [])) c67_0 c68_0 (0 : Int) (List.take ((List.length c72_0) - (Int.toNat c73_0)) (List.drop (Int.toNat c73_0) c72_0)) c73_0 c74_0
            else none
            else none
          else
          bif (Go.Iv.ilt (0 : Int) c71_0) then
            Option.bind (is (n + 1) (-(1 : Int))) fun y36 =>
            bif (!y36.1) then
              some (.inr ((), (((), ()), (((4 : Int), ()), ((c66_0, ()), ((c67_0, ()), ((c68_0, ()), (((), ((), ((), ()))), (((), ()), ((c71_0, ()), ((c72_0, ()), ((c73_0, ()), ((c74_0, ()), (((), ((), ())), ()))))))))))))))
            else
            bif (room (((List.length c66_0) + (List.length ((-(1 : Int)) :: []))) * 9)) then
            bif ((Go.Iv.ile (0 : Int) c73_0) && (Go.Iv.ile c73_0 (len c72_0))) then
            L34_0 n c65_0 (c66_0 ++ ((-(1 : Int)) :: [])) c67_0 c68_0 c71_0 (List.take ((List.length c72_0) - (Int.toNat c73_0)) (List.drop (Int.toNat c73_0) c72_0)) c73_0 c74_0
            else none
            else none
          else
          bif (Go.Iv.ile (55296 : Int) y34.1) then
            bif (Go.Iv.ilt y34.1 (56320 : Int)) then
              bif ((Go.Iv.ile (0 : Int) c73_0) && (Go.Iv.ile c73_0 (len c72_0))) then
              L34_0 n c65_0 c66_0 c67_0 c68_0 y34.1 (List.take ((List.length c72_0) - (Int.toNat c73_0)) (List.drop (Int.toNat c73_0) c72_0)) c73_0 c74_0
              else none
            else
            Option.bind (is (n + 1) y34.1) fun y37 =>
            bif (!y37.1) then
              some (.inr ((), (((), ()), (((4 : Int), ()), ((c66_0, ()), ((c67_0, ()), ((c68_0, ()), (((), ((), ((), ()))), (((), ()), ((c71_0, ()), ((c72_0, ()), ((c73_0, ()), ((c74_0, ()), (((), ((), ())), ()))))))))))))))
            else
            bif (room (((List.length c66_0) + (List.length (y34.1 :: []))) * 9)) then
            bif ((Go.Iv.ile (0 : Int) c73_0) && (Go.Iv.ile c73_0 (len c72_0))) then
            L34_0 n c65_0 (c66_0 ++ (y34.1 :: [])) c67_0 c68_0 c71_0 (List.take ((List.length c72_0) - (Int.toNat c73_0)) (List.drop (Int.toNat c73_0) c72_0)) c73_0 c74_0
            else none
            else none
          else
          Option.bind (is (n + 1) y34.1) fun y38 =>
          bif (!y38.1) then
            some (.inr ((), (((), ()), (((4 : Int), ()), ((c66_0, ()), ((c67_0, ()), ((c68_0, ()), (((), ((), ((), ()))), (((), ()), ((c71_0, ()), ((c72_0, ()), ((c73_0, ()), ((c74_0, ()), (((), ((), ())), ()))))))))))))))
          else
          bif (room (((List.length c66_0) + (List.length (y34.1 :: []))) * 9)) then
          bif ((Go.Iv.ile (0 : Int) c73_0) && (Go.Iv.ile c73_0 (len c72_0))) then
          L34_0 n c65_0 (c66_0 ++ (y34.1 :: [])) c67_0 c68_0 c71_0 (List.take ((List.length c72_0) - (Int.toNat c73_0)) (List.drop (Int.toNat c73_0) c72_0)) c73_0 c74_0
          else none
          else none
        else
        bif (Go.Iv.ilt (0 : Int) c71_0) then
          Option.bind (is (n + 1) (-(1 : Int))) fun y39 =>
          bif (!y39.1) then
            some (.inr ((), (((), ()), (((4 : Int), ()), ((c66_0, ()), ((c67_0, ()), ((c68_0, ()), (((), ((), ((), ()))), (((), ()), ((c71_0, ()), ((c72_0, ()), ((c73_0, ()), ((c74_0, ()), (((), ((), ())), ()))))))))))))))
          else
          bif (room (((List.length c66_0) + (List.length ((-(1 : Int)) :: []))) * 9)) then
          bif ((Go.Iv.ile (0 : Int) c73_0) && (Go.Iv.ile c73_0 (len c72_0))) then
          L34_0 n c65_0 (c66_0 ++ ((-(1 : Int)) :: [])) c67_0 c68_0 c71_0 (List.take ((List.length c72_0) - (Int.toNat c73_0)) (List.drop (Int.toNat c73_0) c72_0)) c73_0 c74_0
          else none
          else none
        else
        bif (Go.Iv.ile (55296 : Int) y34.1) then
          bif (Go.Iv.ilt y34.1 (56320 : Int)) then
            bif ((Go.Iv.ile (0 : Int) c73_0) && (Go.Iv.ile c73_0 (len c72_0))) then
            L34_0 n c65_0 c66_0 c67_0 c68_0 y34.1 (List.take ((List.length c72_0) - (Int.toNat c73_0)) (List.drop (Int.toNat c73_0) c72_0)) c73_0 c74_0
            else none
          else
          Option.bind (is (n + 1) y34.1) fun y40 =>
          bif (!y40.1) then
            some (.inr ((), (((), ()), (((4 : Int), ()), ((c66_0, ()), ((c67_0, ()), ((c68_0, ()), (((), ((), ((), ()))), (((), ()), ((c71_0, ()), ((c72_0, ()), ((c73_0, ()), ((c74_0, ()), (((), ((), ())), ()))))))))))))))
          else
          bif (room (((List.length c66_0) + (List.length (y34.1 :: []))) * 9)) then
          bif ((Go.Iv.ile (0 : Int) c73_0) && (Go.Iv.ile c73_0 (len c72_0))) then
          L34_0 n c65_0 (c66_0 ++ (y34.1 :: [])) c67_0 c68_0 c71_0 (List.take ((List.length c72_0) - (Int.toNat c73_0)) (List.drop (Int.toNat c73_0) c72_0)) c73_0 c74_0
          else none
          else none
        else
        Option.bind (is (n + 1) y34.1) fun y41 =>
        bif (!y41.1) then
          some (.inr ((), (((), ()), (((4 : Int), ()), ((c66_0, ()), ((c67_0, ()), ((c68_0, ()), (((), ((), ((), ()))), (((), ()), ((c71_0, ()), ((c72_0, ()), ((c73_0, ()), ((c74_0, ()), (((), ((), ())), ()))))))))))))))
        else
        bif (room (((List.length c66_0) + (List.length (y34.1 :: []))) * 9)) then
        bif ((Go.Iv.ile (0 : Int) c73_0) && (Go.Iv.ile c73_0 (len c72_0))) then
        L34_0 n c65_0 (c66_0 ++ (y34.1 :: [])) c67_0 c68_0 c71_0 (List.take ((List.length c72_0) - (Int.toNat c73_0)) (List.drop (Int.toNat c73_0) c72_0)) c73_0 c74_0
        else none
        else none
      else
      bif (Go.Iv.ilt (0 : Int) c71_0) then
        Option.bind (is (n + 1) (-(1 : Int))) fun y42 =>
        bif (!y42.1) then
          some (.inr ((), (((), ()), (((4 : Int), ()), ((c66_0, ()), ((c67_0, ()), ((c68_0, ()), (((), ((), ((), ()))), (((), ()), ((c71_0, ()), ((c72_0, ()), ((c73_0, ()), ((c74_0, ()), (((), ((), ())), ()))))))))))))))
        else
        bif (room (((List.length c66_0) + (List.length ((-(1 : Int)) :: []))) * 9)) then
        bif ((Go.Iv.ile (0 : Int) c73_0) && (Go.Iv.ile c73_0 (len c72_0))) then
        L34_0 n c65_0 (c66_0 ++ ((-(1 : Int)) :: [])) c67_0 c68_0 c71_0 (List.take ((List.length c72_0) - (Int.toNat c73_0)) (List.drop (Int.toNat c73_0) c72_0)) c73_0 c74_0
        else none
        else none
      else
      bif (Go.Iv.ile (55296 : Int) y34.1) then
        bif (Go.Iv.ilt y34.1 (56320 : Int)) then
          bif ((Go.Iv.ile (0 : Int) c73_0) && (Go.Iv.ile c73_0 (len c72_0))) then
          L34_0 n c65_0 c66_0 c67_0 c68_0 y34.1 (List.take ((List.length c72_0) - (Int.toNat c73_0)) (List.drop (Int.toNat c73_0) c72_0)) c73_0 c74_0
          else none
        else
        Option.bind (is (n + 1) y34.1) fun y43 =>
        bif (!y43.1) then
          some (.inr ((), (((), ()), (((4 : Int), ()), ((c66_0, ()), ((c67_0, ()), ((c68_0, ()), (((), ((), ((), ()))), (((), ()), ((c71_0, ()), ((c72_0, ()), ((c73_0, ()), ((c74_0, ()), (((), ((), ())), ()))))))))))))))
        else
        bif (room (((List.length c66_0) + (List.length (y34.1 :: []))) * 9)) then
        bif ((Go.Iv.ile (0 : Int) c73_0) && (Go.Iv.ile c73_0 (len c72_0))) then
        L34_0 n c65_0 (c66_0 ++ (y34.1 :: [])) c67_0 c68_0 c71_0 (List.take ((List.length c72_0) - (Int.toNat c73_0)) (List.drop (Int.toNat c73_0) c72_0)) c73_0 c74_0
        else none
        else none
      else
      Option.bind (is (n + 1) y34.1) fun y44 =>
      bif (!y44.1) then
        some (.inr ((), (((), ()), (((4 : Int), ()), ((c66_0, ()), ((c67_0, ()), ((c68_0, ()), (((), ((), ((), ()))), (((), ()), ((c71_0, ()), ((c72_0, ()), ((c73_0, ()), ((c74_0, ()), (((), ((), ())), ()))))))))))))))
      else
      bif (room (((List.length c66_0) + (List.length (y34.1 :: []))) * 9)) then
      bif ((Go.Iv.ile (0 : Int) c73_0) && (Go.Iv.ile c73_0 (len c72_0))) then
      L34_0 n c65_0 (c66_0 ++ (y34.1 :: [])) c67_0 c68_0 c71_0 (List.take ((List.length c72_0) - (Int.toNat c73_0)) (List.drop (Int.toNat c73_0) c72_0)) c73_0 c74_0
      else none
      else none
      else none
    else
    some (.inl (((), ((), ())), (((), ()), ((c65_0, ()), ((c66_0, ()), ((c67_0, ()), ((c68_0, ()), (((), ((), ((), ()))), (((), ()), ((c71_0, ()), ((c72_0, ()), ((c73_0, ()), ((c74_0, ()), (((), ((), ())), ()))))))))))))))
noncomputable def L34_0_it : LoopIt := ⟨34, 0, none, L34_0_T, [(.exit 0, L34_0_Xexit0), (.ret, L34_0_Xret)], 3, fun n x => L34_0 n x.2.2.1.1 x.2.2.2.1.1 x.2.2.2.2.1.1 x.2.2.2.2.2.1.1 x.2.2.2.2.2.2.2.2.1.1 x.2.2.2.2.2.2.2.2.2.1.1 x.2.2.2.2.2.2.2.2.2.2.1.1 x.2.2.2.2.2.2.2.2.2.2.2.1.1⟩
theorem L34_0_Xexit0_ok : L34_0_Xexit0.ok Go.Proofs.Tryd.prog hint := by
  intro p hp
  simp only [L34_0_Xexit0, List.mem_cons, List.not_mem_nil, or_false] at hp
  rcases hp with rfl | rfl | rfl | rfl | rfl | rfl | rfl | rfl | rfl | rfl | rfl | rfl
  · trivial
  · trivial
  · trivial
  · trivial
  · trivial
  · exact Uniq.of (by kernel_rfl) (by kernel_rfl)
  · trivial
  · trivial
  · trivial
  · trivial
  · trivial
  · exact Uniq.of (by kernel_rfl) (by kernel_rfl)
theorem L34_0_Xret_ok : L34_0_Xret.ok Go.Proofs.Tryd.prog hint := by
  intro p hp
  simp only [L34_0_Xret, List.mem_cons, List.not_mem_nil, or_false] at hp
  rcases hp with rfl | rfl | rfl | rfl | rfl | rfl | rfl | rfl | rfl | rfl | rfl | rfl
  · trivial
  · trivial
  · trivial
  · trivial
  · trivial
  · exact Uniq.of (by kernel_rfl) (by kernel_rfl)
  · trivial
  · trivial
  · trivial
  · trivial
  · trivial
  · exact Uniq.of (by kernel_rfl) (by kernel_rfl)
theorem L34_0_T_ok : L34_0_T.ok Go.Proofs.Tryd.prog hint := by
  intro p hp
  simp only [L34_0_T, List.mem_cons, List.not_mem_nil, or_false] at hp
  rcases hp with rfl | rfl | rfl | rfl | rfl | rfl | rfl | rfl | rfl | rfl | rfl | rfl
  · trivial
  · trivial
  · trivial
  · trivial
  · trivial
  · exact Uniq.of (by kernel_rfl) (by kernel_rfl)
  · trivial
  · trivial
  · trivial
  · trivial
  · trivial
  · exact Uniq.of (by kernel_rfl) (by kernel_rfl)
theorem L34_0_ok : ∀ n, LoopOK Go.Proofs.Tryd.prog hint shT L34_0_it n :=
  LoopOK.of (hk := fun β => (Known.mk [form_it, fits_it, dr_it, drs_it, is_it, unit_it, bytesR_it, sameInts_it, pointsR_it, smallR_it, pointR_it, pairsR_it, unitsR_it, formR_it, isR_it, right_it, alive_it] [L11_2_it, L24_2_it, L37_2_it, L35_3_it, L16_3_it, L14_4_it, L10_10_it, L19_3_it, L31_23_it, L21_3_it, L20_3_it, L20_7_65_it, L20_7_it, L25_4_it]).hk β) (sh := shT) (OneLoop.of (by kernel_rfl)) L34_0_T_ok ⟨⟨L34_0_Xexit0_ok, Nat.le_refl _, Nat.le_refl _⟩, ⟨L34_0_Xret_ok, Nat.le_refl _, Nat.le_refl _⟩, trivial⟩ (fun m => KnownOK.hook (((((((((((((((((((((((((((((((KnownOK.nil.fn alive_ok).fn right_ok).loop L25_4_ok L25_4_T_ok).fn isR_ok).fn formR_ok).loop L20_7_ok L20_7_T_ok).loop L20_7_65_ok L20_7_65_T_ok).loop L20_3_ok L20_3_T_ok).fn unitsR_ok).loop L21_3_ok L21_3_T_ok).fn pairsR_ok).loop L31_23_ok L31_23_T_ok).fn pointR_ok).loop L19_3_ok L19_3_T_ok).fn smallR_ok).loop L10_10_ok L10_10_T_ok).fn pointsR_ok).loop L14_4_ok L14_4_T_ok).fn sameInts_ok).loop L16_3_ok L16_3_T_ok).fn bytesR_ok).loop L35_3_ok L35_3_T_ok).fn unit_ok).fn is_ok).fn drs_ok).loop L37_2_ok L37_2_T_ok).fn dr_ok).loop L24_2_ok L24_2_T_ok).fn fits_ok).loop L11_2_ok L11_2_T_ok).fn form_ok) m)
    (fun _ => by kernel_rfl) (fun m x => by kernel_rfl)

noncomputable def L34_0_71_Xexit0 : Tm := ⟨[(0, .one (.fix (Go.Gv.TV.yld 70))), (1, .one (.fix (Go.Gv.TV.ptr 67 0)))], [(64, .cells 24 [.fix (Go.Gv.TV.raw (Go.Value.slice (Option.none) 0 0))] true), (65, .cells 25 [.int .i64] true), (66, .cells 24 [.all 71 3 (.int .i64) true] true), (67, .cells 22 [.lst .byte] true), (68, .cells 3 [.int .i64] true), (69, .cells 4 [.bool] true), (70, .loop 9 Go.LoopState.ready (Option.none) (fiIn Go.Proofs.Tryd.prog hint 9) [(2, .one (.fix (Go.Gv.TV.ptr 64 0))), (3, .one (.fix (Go.Gv.TV.ptr 65 0))), (6, .one (.fix (Go.Gv.TV.ptr 66 0)))] (rangeIn Go.Proofs.Tryd.prog 9 7).1 (rangeIn Go.Proofs.Tryd.prog 9 7).2.1 (rangeIn Go.Proofs.Tryd.prog 9 7).2.2)], 71, 72, 1007⟩
noncomputable def L34_0_71_Xret : Tm := ⟨[], [(64, .cells 24 [.fix (Go.Gv.TV.raw (Go.Value.slice (Option.none) 0 0))] true), (65, .cells 25 [.int .i64] true), (66, .cells 24 [.all 71 3 (.int .i64) true] true), (67, .cells 22 [.lst .byte] true), (68, .cells 3 [.int .i64] true), (69, .cells 4 [.bool] true), (70, .loop 9 Go.LoopState.done (Option.some Go.Code.ret) (fiIn Go.Proofs.Tryd.prog hint 9) [(2, .one (.fix (Go.Gv.TV.ptr 64 0))), (3, .one (.fix (Go.Gv.TV.ptr 65 0))), (6, .one (.fix (Go.Gv.TV.ptr 66 0)))] (rangeIn Go.Proofs.Tryd.prog 9 7).1 (rangeIn Go.Proofs.Tryd.prog 9 7).2.1 (rangeIn Go.Proofs.Tryd.prog 9 7).2.2)], 71, 72, 1007⟩
noncomputable def L34_0_71_T : Tm := ⟨[(0, .one (.fix (Go.Gv.TV.yld 70))), (1, .one (.fix (Go.Gv.TV.ptr 67 0))), (2, .one (.fix (Go.Gv.TV.ptr 68 0))), (3, .one (.fix (Go.Gv.TV.ptr 69 0)))], [(64, .cells 24 [.fix (Go.Gv.TV.raw (Go.Value.slice (Option.none) 0 0))] true), (65, .cells 25 [.int .i64] true), (66, .cells 24 [.all 71 3 (.int .i64) true] true), (67, .cells 22 [.lst .byte] true), (68, .cells 3 [.int .i64] true), (69, .cells 4 [.bool] true), (70, .loop 9 Go.LoopState.ready (Option.none) (fiIn Go.Proofs.Tryd.prog hint 9) [(2, .one (.fix (Go.Gv.TV.ptr 64 0))), (3, .one (.fix (Go.Gv.TV.ptr 65 0))), (6, .one (.fix (Go.Gv.TV.ptr 66 0)))] (rangeIn Go.Proofs.Tryd.prog 9 7).1 (rangeIn Go.Proofs.Tryd.prog 9 7).2.1 (rangeIn Go.Proofs.Tryd.prog 9 7).2.2)], 71, 72, 1007⟩
noncomputable def L34_0_71 : Nat → Int → (List Int) → (List UInt8) → Int → Bool → Option (((Unit × (Unit × Unit)) × ((Unit × Unit) × ((Int × Unit) × (((List Int) × Unit) × (((List UInt8) × Unit) × ((Int × Unit) × ((Bool × Unit) × ((Unit × (Unit × (Unit × Unit))) × Unit)))))))) ⊕ (Unit × ((Unit × Unit) × ((Int × Unit) × (((List Int) × Unit) × (((List UInt8) × Unit) × ((Int × Unit) × ((Bool × Unit) × ((Unit × (Unit × (Unit × Unit))) × Unit)))))))))
  | 0, _, _, _, _, _ => none
  | n + 1, c65_0, c66_0, c67_0, c68_0, c69_0 =>
    bif (Go.Iv.ile c68_0 (len c67_0)) then
      bif ((Go.Iv.ile (0 : Int) c68_0) && (Go.Iv.ile c68_0 (len c67_0))) then
      Option.bind (unit (n + 1) (List.take ((Int.toNat c68_0) - 0) (List.drop 0 c67_0)) c69_0) fun y63 =>
      Option.bind (is (n + 1) y63.1) fun y64 =>
      bif (!y64.1) then
        some (.inr ((), (((), ()), (((4 : Int), ()), ((c66_0, ()), ((c67_0, ()), ((c68_0, ()), ((c69_0, ()), (((), ((), ((), ()))), ())))))))))
      else
      bif (room (((List.length c66_0) + (List.length (y63.1 :: []))) * 9)) then
      bif ((Go.Iv.ile (0 : Int) c68_0) && (Go.Iv.ile c68_0 (len c67_0))) then
      L34_0_71 n c65_0 (c66_0 ++ (y63.1 :: [])) (List.take ((List.length c67_0) - (Int.toNat c68_0)) (List.drop (Int.toNat c68_0) c67_0)) c68_0 c69_0
      else none
      else none
      else none
    else
    some (.inl (((), ((), ())), (((), ()), ((c65_0, ()), ((c66_0, ()), ((c67_0, ()), ((c68_0, ()), ((c69_0, ()), (((), ((), ((), ()))), ())))))))))
noncomputable def L34_0_71_it : LoopIt := ⟨34, 0, none, L34_0_71_T, [(.exit 0, L34_0_71_Xexit0), (.ret, L34_0_71_Xret)], 2, fun n x => L34_0_71 n x.2.2.1.1 x.2.2.2.1.1 x.2.2.2.2.1.1 x.2.2.2.2.2.1.1 x.2.2.2.2.2.2.1.1⟩
theorem L34_0_71_Xexit0_ok : L34_0_71_Xexit0.ok Go.Proofs.Tryd.prog hint := by
  intro p hp
  simp only [L34_0_71_Xexit0, List.mem_cons, List.not_mem_nil, or_false] at hp
  rcases hp with rfl | rfl | rfl | rfl | rfl | rfl | rfl
  · trivial
  · trivial
  · trivial
  · trivial
  · trivial
  · trivial
  · exact Uniq.of (by kernel_rfl) (by kernel_rfl)
theorem L34_0_71_Xret_ok : L34_0_71_Xret.ok Go.Proofs.Tryd.prog hint := by
  intro p hp
  simp only [L34_0_71_Xret, List.mem_cons, List.not_mem_nil, or_false] at hp
  rcases hp with rfl | rfl | rfl | rfl | rfl | rfl | rfl
  · trivial
  · trivial
  · trivial
  · trivial
  · trivial
  · trivial
  · exact Uniq.of (by kernel_rfl) (by kernel_rfl)
theorem L34_0_71_T_ok : L34_0_71_T.ok Go.Proofs.Tryd.prog hint := by
  intro p hp
  simp only [L34_0_71_T, List.mem_cons, List.not_mem_nil, or_false] at hp
  rcases hp with rfl | rfl | rfl | rfl | rfl | rfl | rfl
  · trivial
  · trivial
  · trivial
  · trivial
  · trivial
  · trivial
  · exact Uniq.of (by kernel_rfl) (by kernel_rfl)
theorem L34_0_71_ok : ∀ n, LoopOK Go.Proofs.Tryd.prog hint shT L34_0_71_it n :=
  LoopOK.of (hk := fun β => (Known.mk [form_it, fits_it, dr_it, drs_it, is_it, unit_it, bytesR_it, sameInts_it, pointsR_it, smallR_it, pointR_it, pairsR_it, unitsR_it, formR_it, isR_it, right_it, alive_it] [L34_0_it, L11_2_it, L24_2_it, L37_2_it, L35_3_it, L16_3_it, L14_4_it, L10_10_it, L19_3_it, L31_23_it, L21_3_it, L20_3_it, L20_7_65_it, L20_7_it, L25_4_it]).hk β) (sh := shT) (OneLoop.of (by kernel_rfl)) L34_0_71_T_ok ⟨⟨L34_0_71_Xexit0_ok, Nat.le_refl _, Nat.le_refl _⟩, ⟨L34_0_71_Xret_ok, Nat.le_refl _, Nat.le_refl _⟩, trivial⟩ (fun m => KnownOK.hook ((((((((((((((((((((((((((((((((KnownOK.nil.fn alive_ok).fn right_ok).loop L25_4_ok L25_4_T_ok).fn isR_ok).fn formR_ok).loop L20_7_ok L20_7_T_ok).loop L20_7_65_ok L20_7_65_T_ok).loop L20_3_ok L20_3_T_ok).fn unitsR_ok).loop L21_3_ok L21_3_T_ok).fn pairsR_ok).loop L31_23_ok L31_23_T_ok).fn pointR_ok).loop L19_3_ok L19_3_T_ok).fn smallR_ok).loop L10_10_ok L10_10_T_ok).fn pointsR_ok).loop L14_4_ok L14_4_T_ok).fn sameInts_ok).loop L16_3_ok L16_3_T_ok).fn bytesR_ok).loop L35_3_ok L35_3_T_ok).fn unit_ok).fn is_ok).fn drs_ok).loop L37_2_ok L37_2_T_ok).fn dr_ok).loop L24_2_ok L24_2_T_ok).fn fits_ok).loop L11_2_ok L11_2_T_ok).fn form_ok).loop L34_0_ok L34_0_T_ok) m)
    (fun _ => by kernel_rfl) (fun m x => by kernel_rfl)

noncomputable def L36_0_Xexit0 : Tm := ⟨[], [(64, .cells 24 [.fix (Go.Gv.TV.raw (Go.Value.slice (Option.none) 0 0))] true), (65, .cells 25 [.int .i64] true), (66, .cells 24 [.all 69 3 (.int .i64) true] true), (67, .cells 22 [.lst .byte] true), (68, .loop 9 Go.LoopState.ready (Option.none) (fiIn Go.Proofs.Tryd.prog hint 9) [(2, .one (.fix (Go.Gv.TV.ptr 64 0))), (3, .one (.fix (Go.Gv.TV.ptr 65 0))), (6, .one (.fix (Go.Gv.TV.ptr 66 0)))] (rangeIn Go.Proofs.Tryd.prog 9 7).1 (rangeIn Go.Proofs.Tryd.prog 9 7).2.1 (rangeIn Go.Proofs.Tryd.prog 9 7).2.2)], 69, 70, 1005⟩
noncomputable def L36_0_Xret : Tm := ⟨[], [(64, .cells 24 [.fix (Go.Gv.TV.raw (Go.Value.slice (Option.none) 0 0))] true), (65, .cells 25 [.int .i64] true), (66, .cells 24 [.all 69 3 (.int .i64) true] true), (67, .cells 22 [.lst .byte] true), (68, .loop 9 Go.LoopState.done (Option.some Go.Code.ret) (fiIn Go.Proofs.Tryd.prog hint 9) [(2, .one (.fix (Go.Gv.TV.ptr 64 0))), (3, .one (.fix (Go.Gv.TV.ptr 65 0))), (6, .one (.fix (Go.Gv.TV.ptr 66 0)))] (rangeIn Go.Proofs.Tryd.prog 9 7).1 (rangeIn Go.Proofs.Tryd.prog 9 7).2.1 (rangeIn Go.Proofs.Tryd.prog 9 7).2.2)], 69, 70, 1005⟩
noncomputable def L36_0_T : Tm := ⟨[(0, .one (.fix (Go.Gv.TV.yld 68))), (1, .one (.fix (Go.Gv.TV.ptr 67 0)))], [(64, .cells 24 [.fix (Go.Gv.TV.raw (Go.Value.slice (Option.none) 0 0))] true), (65, .cells 25 [.int .i64] true), (66, .cells 24 [.all 69 3 (.int .i64) true] true), (67, .cells 22 [.lst .byte] true), (68, .loop 9 Go.LoopState.ready (Option.none) (fiIn Go.Proofs.Tryd.prog hint 9) [(2, .one (.fix (Go.Gv.TV.ptr 64 0))), (3, .one (.fix (Go.Gv.TV.ptr 65 0))), (6, .one (.fix (Go.Gv.TV.ptr 66 0)))] (rangeIn Go.Proofs.Tryd.prog 9 7).1 (rangeIn Go.Proofs.Tryd.prog 9 7).2.1 (rangeIn Go.Proofs.Tryd.prog 9 7).2.2)], 69, 70, 1005⟩
noncomputable def L36_0 : Nat → Int → (List Int) → (List UInt8) → Option ((Unit × ((Unit × Unit) × ((Int × Unit) × (((List Int) × Unit) × (((List UInt8) × Unit) × ((Unit × (Unit × (Unit × Unit))) × Unit)))))) ⊕ (Unit × ((Unit × Unit) × ((Int × Unit) × (((List Int) × Unit) × (((List UInt8) × Unit) × ((Unit × (Unit × (Unit × Unit))) × Unit)))))))
  | 0, _, _, _ => none
  | n + 1, c65_0, c66_0, c67_0 =>
    bif (Go.Iv.ilt (0 : Int) (len c67_0)) then
      Option.bind (dr (n + 1) c67_0) fun y81 =>
      bif (y81.1 == (65533 : Int)) then
        bif (y81.2.1 == (1 : Int)) then
          Option.bind (is (n + 1) (-(1 : Int))) fun y82 =>
          bif (!y82.1) then
            some (.inr ((), (((), ()), (((4 : Int), ()), ((c66_0, ()), ((c67_0, ()), (((), ((), ((), ()))), ())))))))
          else
          bif (room (((List.length c66_0) + (List.length ((-(1 : Int)) :: []))) * 9)) then
          bif ((Go.Iv.ile (0 : Int) y81.2.1) && (Go.Iv.ile y81.2.1 (len c67_0))) then
          L36_0 n c65_0 (c66_0 ++ ((-(1 : Int)) :: [])) (List.take ((List.length c67_0) - (Int.toNat y81.2.1)) (List.drop (Int.toNat y81.2.1) c67_0))
          else none
          else none
        else
        Option.bind (is (n + 1) (Go.IntKind.wrap Go.IntKind.i64 y81.1)) fun y83 =>
        bif (!y83.1) then
          some (.inr ((), (((), ()), (((4 : Int), ()), ((c66_0, ()), ((c67_0, ()), (((), ((), ((), ()))), ())))))))
        else
        bif (room (((List.length c66_0) + (List.length ((Go.IntKind.wrap Go.IntKind.i64 y81.1) :: []))) * 9)) then
        bif ((Go.Iv.ile (0 : Int) y81.2.1) && (Go.Iv.ile y81.2.1 (len c67_0))) then
        L36_0 n c65_0 (c66_0 ++ ((Go.IntKind.wrap Go.IntKind.i64 y81.1) :: [])) (List.take ((List.length c67_0) - (Int.toNat y81.2.1)) (List.drop (Int.toNat y81.2.1) c67_0))
        else none
        else none
      else
      Option.bind (is (n + 1) (Go.IntKind.wrap Go.IntKind.i64 y81.1)) fun y84 =>
      bif (!y84.1) then
        some (.inr ((), (((), ()), (((4 : Int), ()), ((c66_0, ()), ((c67_0, ()), (((), ((), ((), ()))), ())))))))
      else
      bif (room (((List.length c66_0) + (List.length ((Go.IntKind.wrap Go.IntKind.i64 y81.1) :: []))) * 9)) then
      bif ((Go.Iv.ile (0 : Int) y81.2.1) && (Go.Iv.ile y81.2.1 (len c67_0))) then
      L36_0 n c65_0 (c66_0 ++ ((Go.IntKind.wrap Go.IntKind.i64 y81.1) :: [])) (List.take ((List.length c67_0) - (Int.toNat y81.2.1)) (List.drop (Int.toNat y81.2.1) c67_0))
      else none
      else none
    else
    some (.inl ((), (((), ()), ((c65_0, ()), ((c66_0, ()), ((c67_0, ()), (((), ((), ((), ()))), ())))))))
noncomputable def L36_0_it : LoopIt := ⟨36, 0, none, L36_0_T, [(.exit 0, L36_0_Xexit0), (.ret, L36_0_Xret)], 2, fun n x => L36_0 n x.2.2.1.1 x.2.2.2.1.1 x.2.2.2.2.1.1⟩
theorem L36_0_Xexit0_ok : L36_0_Xexit0.ok Go.Proofs.Tryd.prog hint := by
  intro p hp
  simp only [L36_0_Xexit0, List.mem_cons, List.not_mem_nil, or_false] at hp
  rcases hp with rfl | rfl | rfl | rfl | rfl
  · trivial
  · trivial
  · trivial
  · trivial
  · exact Uniq.of (by kernel_rfl) (by kernel_rfl)
theorem L36_0_Xret_ok : L36_0_Xret.ok Go.Proofs.Tryd.prog hint := by
  intro p hp
  simp only [L36_0_Xret, List.mem_cons, List.not_mem_nil, or_false] at hp
  rcases hp with rfl | rfl | rfl | rfl | rfl
  · trivial
  · trivial
  · trivial
  · trivial
  · exact Uniq.of (by kernel_rfl) (by kernel_rfl)
theorem L36_0_T_ok : L36_0_T.ok Go.Proofs.Tryd.prog hint := by
  intro p hp
  simp only [L36_0_T, List.mem_cons, List.not_mem_nil, or_false] at hp
  rcases hp with rfl | rfl | rfl | rfl | rfl
  · trivial
  · trivial
  · trivial
  · trivial
  · exact Uniq.of (by kernel_rfl) (by kernel_rfl)
theorem L36_0_ok : ∀ n, LoopOK Go.Proofs.Tryd.prog hint shT L36_0_it n :=
  LoopOK.of (hk := fun β => (Known.mk [form_it, fits_it, dr_it, drs_it, is_it, unit_it, bytesR_it, sameInts_it, pointsR_it, smallR_it, pointR_it, pairsR_it, unitsR_it, formR_it, isR_it, right_it, alive_it] [L34_0_71_it, L34_0_it, L11_2_it, L24_2_it, L37_2_it, L35_3_it, L16_3_it, L14_4_it, L10_10_it, L19_3_it, L31_23_it, L21_3_it, L20_3_it, L20_7_65_it, L20_7_it, L25_4_it]).hk β) (sh := shT) (OneLoop.of (by kernel_rfl)) L36_0_T_ok ⟨⟨L36_0_Xexit0_ok, Nat.le_refl _, Nat.le_refl _⟩, ⟨L36_0_Xret_ok, Nat.le_refl _, Nat.le_refl _⟩, trivial⟩ (fun m => KnownOK.hook (((((((((((((((((((((((((((((((((KnownOK.nil.fn alive_ok).fn right_ok).loop L25_4_ok L25_4_T_ok).fn isR_ok).fn formR_ok).loop L20_7_ok L20_7_T_ok).loop L20_7_65_ok L20_7_65_T_ok).loop L20_3_ok L20_3_T_ok).fn unitsR_ok).loop L21_3_ok L21_3_T_ok).fn pairsR_ok).loop L31_23_ok L31_23_T_ok).fn pointR_ok).loop L19_3_ok L19_3_T_ok).fn smallR_ok).loop L10_10_ok L10_10_T_ok).fn pointsR_ok).loop L14_4_ok L14_4_T_ok).fn sameInts_ok).loop L16_3_ok L16_3_T_ok).fn bytesR_ok).loop L35_3_ok L35_3_T_ok).fn unit_ok).fn is_ok).fn drs_ok).loop L37_2_ok L37_2_T_ok).fn dr_ok).loop L24_2_ok L24_2_T_ok).fn fits_ok).loop L11_2_ok L11_2_T_ok).fn form_ok).loop L34_0_ok L34_0_T_ok).loop L34_0_71_ok L34_0_71_T_ok) m)
    (fun _ => by kernel_rfl) (fun m x => by kernel_rfl)

noncomputable def points (n : Nat) (b : List UInt8) : Option ((List Int) × (Int × Unit)) :=
  bif (Go.Iv.ilt (1048576 : Int) (len b)) then
    some ([], (3 : Int), ())
  else
  Option.bind (form (n + 2) b) fun y0 =>
  bif ((Go.Iv.ile (0 : Int) y0.2.1) && (Go.Iv.ile y0.2.1 (len b))) then
  bif (y0.1 == (2 : Int)) then
    bif (y0.1 == (2 : Int)) then
      Option.bind (L34_0 n (0 : Int) [] (List.take ((List.length b) - (Int.toNat y0.2.1)) (List.drop (Int.toNat y0.2.1) b)) (y0.1 == (2 : Int)) (0 : Int) (List.take ((List.length b) - (Int.toNat y0.2.1)) (List.drop (Int.toNat y0.2.1) b)) (2 : Int) (y0.1 == (2 : Int))) fun y45 =>
      match y45 with
        | .inl y46 =>
          bif (Go.Iv.ilt (0 : Int) (len y46.2.2.2.2.2.2.2.2.2.1.1)) then
            bif (Go.Iv.ilt (0 : Int) y46.2.2.2.2.2.2.2.2.1.1) then
              bif (Go.Iv.ilt (0 : Int) y46.2.2.2.2.2.2.2.2.1.1) then
                Option.bind (is n (-(1 : Int))) fun y48 =>
                bif (!y48.1) then
                  some ([], (4 : Int), ())
                else
                bif (room (((List.length y46.2.2.2.1.1) + (List.length ((-(1 : Int)) :: []))) * 9)) then
                bif (Go.Iv.ilt (0 : Int) y46.2.2.2.2.2.2.2.2.1.1) then
                  Option.bind (is (n + 2) (-(1 : Int))) fun y49 =>
                  bif (!y49.1) then
                    some ([], (4 : Int), ())
                  else
                  bif (room (((List.length (y46.2.2.2.1.1 ++ ((-(1 : Int)) :: []))) + (List.length ((-(1 : Int)) :: []))) * 9)) then
                  some (((y46.2.2.2.1.1 ++ ((-(1 : Int)) :: [])) ++ ((-(1 : Int)) :: [])), (0 : Int), ())
                  else none
                else
                some ((y46.2.2.2.1.1 ++ ((-(1 : Int)) :: [])), (0 : Int), ())
                else none
              else
              Option.bind (is n (-(1 : Int))) fun y50 =>
              bif (!y50.1) then
                some ([], (4 : Int), ())
              else
              bif (room (((List.length y46.2.2.2.1.1) + (List.length ((-(1 : Int)) :: []))) * 9)) then
              bif (Go.Iv.ilt (0 : Int) y46.2.2.2.2.2.2.2.2.1.1) then
                Option.bind (is (n + 2) (-(1 : Int))) fun y51 =>
                bif (!y51.1) then
                  some ([], (4 : Int), ())
                else
                bif (room (((List.length (y46.2.2.2.1.1 ++ ((-(1 : Int)) :: []))) + (List.length ((-(1 : Int)) :: []))) * 9)) then
                some (((y46.2.2.2.1.1 ++ ((-(1 : Int)) :: [])) ++ ((-(1 : Int)) :: [])), (0 : Int), ())
                else none
              else
              some ((y46.2.2.2.1.1 ++ ((-(1 : Int)) :: [])), (0 : Int), ())
              else none
            else
            bif (Go.Iv.ilt (0 : Int) y46.2.2.2.2.2.2.2.2.1.1) then
              Option.bind (is n (-(1 : Int))) fun y52 =>
              bif (!y52.1) then
                some ([], (4 : Int), ())
              else
              bif (room (((List.length y46.2.2.2.1.1) + (List.length ((-(1 : Int)) :: []))) * 9)) then
              bif (Go.Iv.ilt (0 : Int) y46.2.2.2.2.2.2.2.2.1.1) then
                Option.bind (is (n + 2) (-(1 : Int))) fun y53 =>
                bif (!y53.1) then
                  some ([], (4 : Int), ())
                else
                bif (room (((List.length (y46.2.2.2.1.1 ++ ((-(1 : Int)) :: []))) + (List.length ((-(1 : Int)) :: []))) * 9)) then
                some (((y46.2.2.2.1.1 ++ ((-(1 : Int)) :: [])) ++ ((-(1 : Int)) :: [])), (0 : Int), ())
                else none
              else
              some ((y46.2.2.2.1.1 ++ ((-(1 : Int)) :: [])), (0 : Int), ())
              else none
            else
            Option.bind (is n (-(1 : Int))) fun y54 =>
            bif (!y54.1) then
              some ([], (4 : Int), ())
            else
            bif (room (((List.length y46.2.2.2.1.1) + (List.length ((-(1 : Int)) :: []))) * 9)) then
            bif (Go.Iv.ilt (0 : Int) y46.2.2.2.2.2.2.2.2.1.1) then
              Option.bind (is (n + 2) (-(1 : Int))) fun y55 =>
              bif (!y55.1) then
                some ([], (4 : Int), ())
              else
              bif (room (((List.length (y46.2.2.2.1.1 ++ ((-(1 : Int)) :: []))) + (List.length ((-(1 : Int)) :: []))) * 9)) then
              some (((y46.2.2.2.1.1 ++ ((-(1 : Int)) :: [])) ++ ((-(1 : Int)) :: [])), (0 : Int), ())
              else none
            else
            some ((y46.2.2.2.1.1 ++ ((-(1 : Int)) :: [])), (0 : Int), ())
            else none
          else
          bif (Go.Iv.ilt (0 : Int) y46.2.2.2.2.2.2.2.2.1.1) then
            Option.bind (is (n + 2) (-(1 : Int))) fun y56 =>
            bif (!y56.1) then
              some ([], (4 : Int), ())
            else
            bif (room (((List.length y46.2.2.2.1.1) + (List.length ((-(1 : Int)) :: []))) * 9)) then
            some ((y46.2.2.2.1.1 ++ ((-(1 : Int)) :: [])), (0 : Int), ())
            else none
          else
          some (y46.2.2.2.1.1, (0 : Int), ())
        | .inr y47 =>
          some ([], y47.2.2.1.1, ())
    else
    bif (y0.1 == (4 : Int)) then
      bif (y0.1 == (4 : Int)) then
        Option.bind (L34_0_71 (n + 2) (0 : Int) [] (List.take ((List.length b) - (Int.toNat y0.2.1)) (List.drop (Int.toNat y0.2.1) b)) (4 : Int) (y0.1 == (4 : Int))) fun y65 =>
        match y65 with
          | .inl y66 =>
            bif (Go.Iv.ilt (0 : Int) (len y66.2.2.2.2.1.1)) then
              Option.bind (is (n + 2) (-(1 : Int))) fun y68 =>
              bif (!y68.1) then
                some ([], (4 : Int), ())
              else
              bif (room (((List.length y66.2.2.2.1.1) + (List.length ((-(1 : Int)) :: []))) * 9)) then
              some ((y66.2.2.2.1.1 ++ ((-(1 : Int)) :: [])), (0 : Int), ())
              else none
            else
            some (y66.2.2.2.1.1, (0 : Int), ())
          | .inr y67 =>
            some ([], y67.2.2.1.1, ())
      else
      Option.bind (L36_0 (n + 2) (0 : Int) [] (List.take ((List.length b) - (Int.toNat y0.2.1)) (List.drop (Int.toNat y0.2.1) b))) fun y85 =>
      match y85 with
        | .inl y86 =>
          some (y86.2.2.2.1.1, (0 : Int), ())
        | .inr y87 =>
          some ([], y87.2.2.1.1, ())
    else
    bif (y0.1 == (5 : Int)) then
      Option.bind (L34_0_71 (n + 2) (0 : Int) [] (List.take ((List.length b) - (Int.toNat y0.2.1)) (List.drop (Int.toNat y0.2.1) b)) (4 : Int) (y0.1 == (4 : Int))) fun y88 =>
      match y88 with
        | .inl y89 =>
          bif (Go.Iv.ilt (0 : Int) (len y89.2.2.2.2.1.1)) then
            Option.bind (is (n + 2) (-(1 : Int))) fun y91 =>
            bif (!y91.1) then
              some ([], (4 : Int), ())
            else
            bif (room (((List.length y89.2.2.2.1.1) + (List.length ((-(1 : Int)) :: []))) * 9)) then
            some ((y89.2.2.2.1.1 ++ ((-(1 : Int)) :: [])), (0 : Int), ())
            else none
          else
          some (y89.2.2.2.1.1, (0 : Int), ())
        | .inr y90 =>
          some ([], y90.2.2.1.1, ())
    else
    Option.bind (L36_0 (n + 2) (0 : Int) [] (List.take ((List.length b) - (Int.toNat y0.2.1)) (List.drop (Int.toNat y0.2.1) b))) fun y92 =>
    match y92 with
      | .inl y93 =>
        some (y93.2.2.2.1.1, (0 : Int), ())
      | .inr y94 =>
        some ([], y94.2.2.1.1, ())
  else
  bif (y0.1 == (3 : Int)) then
    Option.bind (L34_0 n (0 : Int) [] (List.take ((List.length b) - (Int.toNat y0.2.1)) (List.drop (Int.toNat y0.2.1) b)) (y0.1 == (2 : Int)) (0 : Int) (List.take ((List.length b) - (Int.toNat y0.2.1)) (List.drop (Int.toNat y0.2.1) b)) (2 : Int) (y0.1 == (2 : Int))) fun y95 =>
    match y95 with
      | .inl y96 =>
        bif (Go.Iv.ilt (0 : Int) (len y96.2.2.2.2.2.2.2.2.2.1.1)) then
          bif (Go.Iv.ilt (0 : Int) y96.2.2.2.2.2.2.2.2.1.1) then
            bif (Go.Iv.ilt (0 : Int) y96.2.2.2.2.2.2.2.2.1.1) then
              Option.bind (is n (-(1 : Int))) fun y98 =>
              bif (!y98.1) then
                some ([], (4 : Int), ())
              else
              bif (room (((List.length y96.2.2.2.1.1) + (List.length ((-(1 : Int)) :: []))) * 9)) then
              bif (Go.Iv.ilt (0 : Int) y96.2.2.2.2.2.2.2.2.1.1) then
                Option.bind (is (n + 2) (-(1 : Int))) fun y99 =>
                bif (!y99.1) then
                  some ([], (4 : Int), ())
                else
                bif (room (((List.length (y96.2.2.2.1.1 ++ ((-(1 : Int)) :: []))) + (List.length ((-(1 : Int)) :: []))) * 9)) then
                some (((y96.2.2.2.1.1 ++ ((-(1 : Int)) :: [])) ++ ((-(1 : Int)) :: [])), (0 : Int), ())
                else none
              else
              some ((y96.2.2.2.1.1 ++ ((-(1 : Int)) :: [])), (0 : Int), ())
              else none
            else
            Option.bind (is n (-(1 : Int))) fun y100 =>
            bif (!y100.1) then
              some ([], (4 : Int), ())
            else
            bif (room (((List.length y96.2.2.2.1.1) + (List.length ((-(1 : Int)) :: []))) * 9)) then
            bif (Go.Iv.ilt (0 : Int) y96.2.2.2.2.2.2.2.2.1.1) then
              Option.bind (is (n + 2) (-(1 : Int))) fun y101 =>
              bif (!y101.1) then
                some ([], (4 : Int), ())
              else
              bif (room (((List.length (y96.2.2.2.1.1 ++ ((-(1 : Int)) :: []))) + (List.length ((-(1 : Int)) :: []))) * 9)) then
              some (((y96.2.2.2.1.1 ++ ((-(1 : Int)) :: [])) ++ ((-(1 : Int)) :: [])), (0 : Int), ())
              else none
            else
            some ((y96.2.2.2.1.1 ++ ((-(1 : Int)) :: [])), (0 : Int), ())
            else none
          else
          bif (Go.Iv.ilt (0 : Int) y96.2.2.2.2.2.2.2.2.1.1) then
            Option.bind (is n (-(1 : Int))) fun y102 =>
            bif (!y102.1) then
              some ([], (4 : Int), ())
            else
            bif (room (((List.length y96.2.2.2.1.1) + (List.length ((-(1 : Int)) :: []))) * 9)) then
            bif (Go.Iv.ilt (0 : Int) y96.2.2.2.2.2.2.2.2.1.1) then
              Option.bind (is (n + 2) (-(1 : Int))) fun y103 =>
              bif (!y103.1) then
                some ([], (4 : Int), ())
              else
              bif (room (((List.length (y96.2.2.2.1.1 ++ ((-(1 : Int)) :: []))) + (List.length ((-(1 : Int)) :: []))) * 9)) then
              some (((y96.2.2.2.1.1 ++ ((-(1 : Int)) :: [])) ++ ((-(1 : Int)) :: [])), (0 : Int), ())
              else none
            else
            some ((y96.2.2.2.1.1 ++ ((-(1 : Int)) :: [])), (0 : Int), ())
            else none
          else
          Option.bind (is n (-(1 : Int))) fun y104 =>
          bif (!y104.1) then
            some ([], (4 : Int), ())
          else
          bif (room (((List.length y96.2.2.2.1.1) + (List.length ((-(1 : Int)) :: []))) * 9)) then
          bif (Go.Iv.ilt (0 : Int) y96.2.2.2.2.2.2.2.2.1.1) then
            Option.bind (is (n + 2) (-(1 : Int))) fun y105 =>
            bif (!y105.1) then
              some ([], (4 : Int), ())
            else
            bif (room (((List.length (y96.2.2.2.1.1 ++ ((-(1 : Int)) :: []))) + (List.length ((-(1 : Int)) :: []))) * 9)) then
            some (((y96.2.2.2.1.1 ++ ((-(1 : Int)) :: [])) ++ ((-(1 : Int)) :: [])), (0 : Int), ())
            else none
          else
          some ((y96.2.2.2.1.1 ++ ((-(1 : Int)) :: [])), (0 : Int), ())
          else none
        else
        bif (Go.Iv.ilt (0 : Int) y96.2.2.2.2.2.2.2.2.1.1) then
          Option.bind (is (n + 2) (-(1 : Int))) fun y106 =>
          bif (!y106.1) then
            some ([], (4 : Int), ())
          else
          bif (room (((List.length y96.2.2.2.1.1) + (List.length ((-(1 : Int)) :: []))) * 9)) then
          some ((y96.2.2.2.1.1 ++ ((-(1 : Int)) :: [])), (0 : Int), ())
          else none
        else
        some (y96.2.2.2.1.1, (0 : Int), ())
      | .inr y97 =>
        some ([], y97.2.2.1.1, ())
  else
  bif (y0.1 == (4 : Int)) then
    bif (y0.1 == (4 : Int)) then
      Option.bind (L34_0_71 (n + 2) (0 : Int) [] (List.take ((List.length b) - (Int.toNat y0.2.1)) (List.drop (Int.toNat y0.2.1) b)) (4 : Int) (y0.1 == (4 : Int))) fun y107 =>
      match y107 with
        | .inl y108 =>
          bif (Go.Iv.ilt (0 : Int) (len y108.2.2.2.2.1.1)) then
            Option.bind (is (n + 2) (-(1 : Int))) fun y110 =>
            bif (!y110.1) then
              some ([], (4 : Int), ())
            else
            bif (room (((List.length y108.2.2.2.1.1) + (List.length ((-(1 : Int)) :: []))) * 9)) then
            some ((y108.2.2.2.1.1 ++ ((-(1 : Int)) :: [])), (0 : Int), ())
            else none
          else
          some (y108.2.2.2.1.1, (0 : Int), ())
        | .inr y109 =>
          some ([], y109.2.2.1.1, ())
    else
    Option.bind (L36_0 (n + 2) (0 : Int) [] (List.take ((List.length b) - (Int.toNat y0.2.1)) (List.drop (Int.toNat y0.2.1) b))) fun y111 =>
    match y111 with
      | .inl y112 =>
        some (y112.2.2.2.1.1, (0 : Int), ())
      | .inr y113 =>
        some ([], y113.2.2.1.1, ())
  else
  bif (y0.1 == (5 : Int)) then
    Option.bind (L34_0_71 (n + 2) (0 : Int) [] (List.take ((List.length b) - (Int.toNat y0.2.1)) (List.drop (Int.toNat y0.2.1) b)) (4 : Int) (y0.1 == (4 : Int))) fun y114 =>
    match y114 with
      | .inl y115 =>
        bif (Go.Iv.ilt (0 : Int) (len y115.2.2.2.2.1.1)) then
          Option.bind (is (n + 2) (-(1 : Int))) fun y117 =>
          bif (!y117.1) then
            some ([], (4 : Int), ())
          else
          bif (room (((List.length y115.2.2.2.1.1) + (List.length ((-(1 : Int)) :: []))) * 9)) then
          some ((y115.2.2.2.1.1 ++ ((-(1 : Int)) :: [])), (0 : Int), ())
          else none
        else
        some (y115.2.2.2.1.1, (0 : Int), ())
      | .inr y116 =>
        some ([], y116.2.2.1.1, ())
  else
  Option.bind (L36_0 (n + 2) (0 : Int) [] (List.take ((List.length b) - (Int.toNat y0.2.1)) (List.drop (Int.toNat y0.2.1) b))) fun y118 =>
  match y118 with
    | .inl y119 =>
      some (y119.2.2.2.1.1, (0 : Int), ())
    | .inr y120 =>
      some ([], y120.2.2.1.1, ())
  else none
noncomputable def points_it : FnIt := ⟨9, [(false, (.slc .byte))], [(false, (.slc (.int .i64))), (false, (.int .i64))], 5, fun n x => points n x.1⟩
theorem points_ok (n : Nat) : FnOK Go.Proofs.Tryd.prog hint shT points_it n :=
  FnOK.of (hk := fun β => (Known.mk [form_it, fits_it, dr_it, drs_it, is_it, unit_it, bytesR_it, sameInts_it, pointsR_it, smallR_it, pointR_it, pairsR_it, unitsR_it, formR_it, isR_it, right_it, alive_it] [L36_0_it, L34_0_71_it, L34_0_it, L11_2_it, L24_2_it, L37_2_it, L35_3_it, L16_3_it, L14_4_it, L10_10_it, L19_3_it, L31_23_it, L21_3_it, L20_3_it, L20_7_65_it, L20_7_it, L25_4_it]).hk β) (sh := shT) (fun m _ => KnownOK.hook ((((((((((((((((((((((((((((((((((KnownOK.nil.fn alive_ok).fn right_ok).loop L25_4_ok L25_4_T_ok).fn isR_ok).fn formR_ok).loop L20_7_ok L20_7_T_ok).loop L20_7_65_ok L20_7_65_T_ok).loop L20_3_ok L20_3_T_ok).fn unitsR_ok).loop L21_3_ok L21_3_T_ok).fn pairsR_ok).loop L31_23_ok L31_23_T_ok).fn pointR_ok).loop L19_3_ok L19_3_T_ok).fn smallR_ok).loop L10_10_ok L10_10_T_ok).fn pointsR_ok).loop L14_4_ok L14_4_T_ok).fn sameInts_ok).loop L16_3_ok L16_3_T_ok).fn bytesR_ok).loop L35_3_ok L35_3_T_ok).fn unit_ok).fn is_ok).fn drs_ok).loop L37_2_ok L37_2_T_ok).fn dr_ok).loop L24_2_ok L24_2_T_ok).fn fits_ok).loop L11_2_ok L11_2_T_ok).fn form_ok).loop L34_0_ok L34_0_T_ok).loop L34_0_71_ok L34_0_71_T_ok).loop L36_0_ok L36_0_T_ok) m) (fun x => by kernel_rfl)

noncomputable def L15_3_Xexit0 : Tm := ⟨[(3, .one (.all 64 5 .byte true))], [], 64, 65, 1000⟩
noncomputable def L15_3_T : Tm := ⟨[(3, .one (.all 64 5 .byte true)), (6, .one (.lst (.int .i64))), (7, .one (.int .i64)), (8, .one (.int .i64))], [], 64, 65, 1000⟩
noncomputable def L15_3 : Nat → (List UInt8) → (List Int) → Int → Int → Option (((List UInt8) × Unit) × Unit)
  | 0, _, _, _, _ => none
  | n + 1, t3, t6, t7, t8 =>
    bif (Go.Iv.ilt t8 t7) then
      bif (Go.Iv.ile (0 : Int) t8) then
      Option.bind (t6[(Int.toNat t8)]?) fun x6 =>
      Option.bind (is (n + 2) x6) fun y7 =>
      bif (!y7.1) then
        bif (room (((List.length t3) + (List.length (((224 : UInt8) ||| (15 : UInt8)) :: (((128 : UInt8) ||| ((255 : UInt8) &&& (63 : UInt8))) :: (((128 : UInt8) ||| ((253 : UInt8) &&& (63 : UInt8))) :: []))))) * 2)) then
        L15_3 n (t3 ++ (((224 : UInt8) ||| (15 : UInt8)) :: (((128 : UInt8) ||| ((255 : UInt8) &&& (63 : UInt8))) :: (((128 : UInt8) ||| ((253 : UInt8) &&& (63 : UInt8))) :: [])))) t6 t7 (Go.IntKind.wrap Go.IntKind.i64 (t8 + (1 : Int)))
        else none
      else
      bif (Go.Iv.ile (Go.IntKind.wrap Go.IntKind.u32 (Go.IntKind.wrap Go.IntKind.i32 x6)) (127 : Int)) then
        bif (room (((List.length t3) + (List.length ((UInt8.ofNat (Int.toNat (Go.IntKind.wrap Go.IntKind.u8 (Go.IntKind.wrap Go.IntKind.i32 x6)))) :: []))) * 2)) then
        L15_3 n (t3 ++ ((UInt8.ofNat (Int.toNat (Go.IntKind.wrap Go.IntKind.u8 (Go.IntKind.wrap Go.IntKind.i32 x6)))) :: [])) t6 t7 (Go.IntKind.wrap Go.IntKind.i64 (t8 + (1 : Int)))
        else none
      else
      bif (Go.Iv.ile (Go.IntKind.wrap Go.IntKind.u32 (Go.IntKind.wrap Go.IntKind.i32 x6)) (2047 : Int)) then
        bif (room (((List.length t3) + (List.length (((192 : UInt8) ||| (UInt8.ofNat (Int.toNat (Go.IntKind.wrap Go.IntKind.u8 (shrI Go.IntKind.i32 (Go.IntKind.wrap Go.IntKind.i32 x6) 6))))) :: (((128 : UInt8) ||| ((UInt8.ofNat (Int.toNat (Go.IntKind.wrap Go.IntKind.u8 (Go.IntKind.wrap Go.IntKind.i32 x6)))) &&& (63 : UInt8))) :: [])))) * 2)) then
        L15_3 n (t3 ++ (((192 : UInt8) ||| (UInt8.ofNat (Int.toNat (Go.IntKind.wrap Go.IntKind.u8 (shrI Go.IntKind.i32 (Go.IntKind.wrap Go.IntKind.i32 x6) 6))))) :: (((128 : UInt8) ||| ((UInt8.ofNat (Int.toNat (Go.IntKind.wrap Go.IntKind.u8 (Go.IntKind.wrap Go.IntKind.i32 x6)))) &&& (63 : UInt8))) :: []))) t6 t7 (Go.IntKind.wrap Go.IntKind.i64 (t8 + (1 : Int)))
        else none
      else
      bif (Go.Iv.ilt (Go.IntKind.wrap Go.IntKind.u32 (Go.IntKind.wrap Go.IntKind.i32 x6)) (55296 : Int)) then
        bif (Go.Iv.ilt (Go.IntKind.wrap Go.IntKind.u32 (Go.IntKind.wrap Go.IntKind.i32 x6)) (55296 : Int)) then
          bif (room (((List.length t3) + (List.length (((224 : UInt8) ||| (UInt8.ofNat (Int.toNat (Go.IntKind.wrap Go.IntKind.u8 (shrI Go.IntKind.i32 (Go.IntKind.wrap Go.IntKind.i32 x6) 12))))) :: (((128 : UInt8) ||| ((UInt8.ofNat (Int.toNat (Go.IntKind.wrap Go.IntKind.u8 (shrI Go.IntKind.i32 (Go.IntKind.wrap Go.IntKind.i32 x6) 6)))) &&& (63 : UInt8))) :: (((128 : UInt8) ||| ((UInt8.ofNat (Int.toNat (Go.IntKind.wrap Go.IntKind.u8 (Go.IntKind.wrap Go.IntKind.i32 x6)))) &&& (63 : UInt8))) :: []))))) * 2)) then
          L15_3 n (t3 ++ (((224 : UInt8) ||| (UInt8.ofNat (Int.toNat (Go.IntKind.wrap Go.IntKind.u8 (shrI Go.IntKind.i32 (Go.IntKind.wrap Go.IntKind.i32 x6) 12))))) :: (((128 : UInt8) ||| ((UInt8.ofNat (Int.toNat (Go.IntKind.wrap Go.IntKind.u8 (shrI Go.IntKind.i32 (Go.IntKind.wrap Go.IntKind.i32 x6) 6)))) &&& (63 : UInt8))) :: (((128 : UInt8) ||| ((UInt8.ofNat (Int.toNat (Go.IntKind.wrap Go.IntKind.u8 (Go.IntKind.wrap Go.IntKind.i32 x6)))) &&& (63 : UInt8))) :: [])))) t6 t7 (Go.IntKind.wrap Go.IntKind.i64 (t8 + (1 : Int)))
          else none
        else
        bif (Go.Iv.ilt (65535 : Int) (Go.IntKind.wrap Go.IntKind.u32 (Go.IntKind.wrap Go.IntKind.i32 x6))) then
          bif (Go.Iv.ile (Go.IntKind.wrap Go.IntKind.u32 (Go.IntKind.wrap Go.IntKind.i32 x6)) (1114111 : Int)) then
            bif (room (((List.length t3) + (List.length (((240 : UInt8) ||| (UInt8.ofNat (Int.toNat (Go.IntKind.wrap Go.IntKind.u8 (shrI Go.IntKind.i32 (Go.IntKind.wrap Go.IntKind.i32 x6) 18))))) :: (((128 : UInt8) ||| ((UInt8.ofNat (Int.toNat (Go.IntKind.wrap Go.IntKind.u8 (shrI Go.IntKind.i32 (Go.IntKind.wrap Go.IntKind.i32 x6) 12)))) &&& (63 : UInt8))) :: (((128 : UInt8) ||| ((UInt8.ofNat (Int.toNat (Go.IntKind.wrap Go.IntKind.u8 (shrI Go.IntKind.i32 (Go.IntKind.wrap Go.IntKind.i32 x6) 6)))) &&& (63 : UInt8))) :: (((128 : UInt8) ||| ((UInt8.ofNat (Int.toNat (Go.IntKind.wrap Go.IntKind.u8 (Go.IntKind.wrap Go.IntKind.i32 x6)))) &&& (63 : UInt8))) :: [])))))) * 2)) then
            L15_3 n (t3 ++ (((240 : UInt8) ||| (UInt8.ofNat (Int.toNat (Go.IntKind.wrap Go.IntKind.u8 (shrI Go.IntKind.i32 (Go.IntKind.wrap Go.IntKind.i32 x6) 18))))) :: (((128 : UInt8) ||| ((UInt8.ofNat (Int.toNat (Go.IntKind.wrap Go.IntKind.u8 (shrI Go.IntKind.i32 (Go.IntKind.wrap Go.IntKind.i32 x6) 12)))) &&& (63 : UInt8))) :: (((128 : UInt8) ||| ((UInt8.ofNat (Int.toNat (Go.IntKind.wrap Go.IntKind.u8 (shrI Go.IntKind.i32 (Go.IntKind.wrap Go.IntKind.i32 x6) 6)))) &&& (63 : UInt8))) :: (((128 : UInt8) ||| ((UInt8.ofNat (Int.toNat (Go.IntKind.wrap Go.IntKind.u8 (Go.IntKind.wrap Go.IntKind.i32 x6)))) &&& (63 : UInt8))) :: []))))) t6 t7 (Go.IntKind.wrap Go.IntKind.i64 (t8 + (1 : Int)))
            else none
          else
          bif (room (((List.length t3) + (List.length ((239 : UInt8) :: ((191 : UInt8) :: ((189 : UInt8) :: []))))) * 2)) then
          L15_3 n (t3 ++ ((239 : UInt8) :: ((191 : UInt8) :: ((189 : UInt8) :: [])))) t6 t7 (Go.IntKind.wrap Go.IntKind.i64 (t8 + (1 : Int)))
          else none
        else
        bif (room (((List.length t3) + (List.length ((239 : UInt8) :: ((191 : UInt8) :: ((189 : UInt8) :: []))))) * 2)) then
        L15_3 n (t3 ++ ((239 : UInt8) :: ((191 : UInt8) :: ((189 : UInt8) :: [])))) t6 t7 (Go.IntKind.wrap Go.IntKind.i64 (t8 + (1 : Int)))
        else none
      else
      bif (Go.Iv.ilt (57343 : Int) (Go.IntKind.wrap Go.IntKind.u32 (Go.IntKind.wrap Go.IntKind.i32 x6))) then
        bif (Go.Iv.ile (Go.IntKind.wrap Go.IntKind.u32 (Go.IntKind.wrap Go.IntKind.i32 x6)) (65535 : Int)) then
          bif (room (((List.length t3) + (List.length (((224 : UInt8) ||| (UInt8.ofNat (Int.toNat (Go.IntKind.wrap Go.IntKind.u8 (shrI Go.IntKind.i32 (Go.IntKind.wrap Go.IntKind.i32 x6) 12))))) :: (((128 : UInt8) ||| ((UInt8.ofNat (Int.toNat (Go.IntKind.wrap Go.IntKind.u8 (shrI Go.IntKind.i32 (Go.IntKind.wrap Go.IntKind.i32 x6) 6)))) &&& (63 : UInt8))) :: (((128 : UInt8) ||| ((UInt8.ofNat (Int.toNat (Go.IntKind.wrap Go.IntKind.u8 (Go.IntKind.wrap Go.IntKind.i32 x6)))) &&& (63 : UInt8))) :: []))))) * 2)) then
          L15_3 n (t3 ++ (((224 : UInt8) ||| (UInt8.ofNat (Int.toNat (Go.IntKind.wrap Go.IntKind.u8 (shrI Go.IntKind.i32 (Go.IntKind.wrap Go.IntKind.i32 x6) 12))))) :: (((128 : UInt8) ||| ((UInt8.ofNat (Int.toNat (Go.IntKind.wrap Go.IntKind.u8 (shrI Go.IntKind.i32 (Go.IntKind.wrap Go.IntKind.i32 x6) 6)))) &&& (63 : UInt8))) :: (((128 : UInt8) ||| ((UInt8.ofNat (Int.toNat (Go.IntKind.wrap Go.IntKind.u8 (Go.IntKind.wrap Go.IntKind.i32 x6)))) &&& (63 : UInt8))) :: [])))) t6 t7 (Go.IntKind.wrap Go.IntKind.i64 (t8 + (1 : Int)))
          else none
        else
        bif (Go.Iv.ilt (65535 : Int) (Go.IntKind.wrap Go.IntKind.u32 (Go.IntKind.wrap Go.IntKind.i32 x6))) then
          bif (Go.Iv.ile (Go.IntKind.wrap Go.IntKind.u32 (Go.IntKind.wrap Go.IntKind.i32 x6)) (1114111 : Int)) then
            bif (room (((List.length t3) + (List.length (((240 : UInt8) ||| (UInt8.ofNat (Int.toNat (Go.IntKind.wrap Go.IntKind.u8 (shrI Go.IntKind.i32 (Go.IntKind.wrap Go.IntKind.i32 x6) 18))))) :: (((128 : UInt8) ||| ((UInt8.ofNat (Int.toNat (Go.IntKind.wrap Go.IntKind.u8 (shrI Go.IntKind.i32 (Go.IntKind.wrap Go.IntKind.i32 x6) 12)))) &&& (63 : UInt8))) :: (((128 : UInt8) ||| ((UInt8.ofNat (Int.toNat (Go.IntKind.wrap Go.IntKind.u8 (shrI Go.IntKind.i32 (Go.IntKind.wrap Go.IntKind.i32 x6) 6)))) &&& (63 : UInt8))) :: (((128 : UInt8) ||| ((UInt8.ofNat (Int.toNat (Go.IntKind.wrap Go.IntKind.u8 (Go.IntKind.wrap Go.IntKind.i32 x6)))) &&& (63 : UInt8))) :: [])))))) * 2)) then
            L15_3 n (t3 ++ (((240 : UInt8) ||| (UInt8.ofNat (Int.toNat (Go.IntKind.wrap Go.IntKind.u8 (shrI Go.IntKind.i32 (Go.IntKind.wrap Go.IntKind.i32 x6) 18))))) :: (((128 : UInt8) ||| ((UInt8.ofNat (Int.toNat (Go.IntKind.wrap Go.IntKind.u8 (shrI Go.IntKind.i32 (Go.IntKind.wrap Go.IntKind.i32 x6) 12)))) &&& (63 : UInt8))) :: (((128 : UInt8) ||| ((UInt8.ofNat (Int.toNat (Go.IntKind.wrap Go.IntKind.u8 (shrI Go.IntKind.i32 (Go.IntKind.wrap Go.IntKind.i32 x6) 6)))) &&& (63 : UInt8))) :: (((128 : UInt8) ||| ((UInt8.ofNat (Int.toNat (Go.IntKind.wrap Go.IntKind.u8 (Go.IntKind.wrap Go.IntKind.i32 x6)))) &&& (63 : UInt8))) :: []))))) t6 t7 (Go.IntKind.wrap Go.IntKind.i64 (t8 + (1 : Int)))
            else none
          else
          bif (room (((List.length t3) + (List.length ((239 : UInt8) :: ((191 : UInt8) :: ((189 : UInt8) :: []))))) * 2)) then
          L15_3 n (t3 ++ ((239 : UInt8) :: ((191 : UInt8) :: ((189 : UInt8) :: [])))) t6 t7 (Go.IntKind.wrap Go.IntKind.i64 (t8 + (1 : Int)))
          else none
        else
        bif (room (((List.length t3) + (List.length ((239 : UInt8) :: ((191 : UInt8) :: ((189 : UInt8) :: []))))) * 2)) then
        L15_3 n (t3 ++ ((239 : UInt8) :: ((191 : UInt8) :: ((189 : UInt8) :: [])))) t6 t7 (Go.IntKind.wrap Go.IntKind.i64 (t8 + (1 : Int)))
        else none
      else
      bif (Go.Iv.ilt (65535 : Int) (Go.IntKind.wrap Go.IntKind.u32 (Go.IntKind.wrap Go.IntKind.i32 x6))) then
        bif (Go.Iv.ile (Go.IntKind.wrap Go.IntKind.u32 (Go.IntKind.wrap Go.IntKind.i32 x6)) (1114111 : Int)) then
          bif (room (((List.length t3) + (List.length (((240 : UInt8) ||| (UInt8.ofNat (Int.toNat (Go.IntKind.wrap Go.IntKind.u8 (shrI Go.IntKind.i32 (Go.IntKind.wrap Go.IntKind.i32 x6) 18))))) :: (((128 : UInt8) ||| ((UInt8.ofNat (Int.toNat (Go.IntKind.wrap Go.IntKind.u8 (shrI Go.IntKind.i32 (Go.IntKind.wrap Go.IntKind.i32 x6) 12)))) &&& (63 : UInt8))) :: (((128 : UInt8) ||| ((UInt8.ofNat (Int.toNat (Go.IntKind.wrap Go.IntKind.u8 (shrI Go.IntKind.i32 (Go.IntKind.wrap Go.IntKind.i32 x6) 6)))) &&& (63 : UInt8))) :: (((128 : UInt8) ||| ((UInt8.ofNat (Int.toNat (Go.IntKind.wrap Go.IntKind.u8 (Go.IntKind.wrap Go.IntKind.i32 x6)))) &&& (63 : UInt8))) :: [])))))) * 2)) then
          L15_3 n (t3 ++ (((240 : UInt8) ||| (UInt8.ofNat (Int.toNat (Go.IntKind.wrap Go.IntKind.u8 (shrI Go.IntKind.i32 (Go.IntKind.wrap Go.IntKind.i32 x6) 18))))) :: (((128 : UInt8) ||| ((UInt8.ofNat (Int.toNat (Go.IntKind.wrap Go.IntKind.u8 (shrI Go.IntKind.i32 (Go.IntKind.wrap Go.IntKind.i32 x6) 12)))) &&& (63 : UInt8))) :: (((128 : UInt8) ||| ((UInt8.ofNat (Int.toNat (Go.IntKind.wrap Go.IntKind.u8 (shrI Go.IntKind.i32 (Go.IntKind.wrap Go.IntKind.i32 x6) 6)))) &&& (63 : UInt8))) :: (((128 : UInt8) ||| ((UInt8.ofNat (Int.toNat (Go.IntKind.wrap Go.IntKind.u8 (Go.IntKind.wrap Go.IntKind.i32 x6)))) &&& (63 : UInt8))) :: []))))) t6 t7 (Go.IntKind.wrap Go.IntKind.i64 (t8 + (1 : Int)))
          else none
        else
        bif (room (((List.length t3) + (List.length ((239 : UInt8) :: ((191 : UInt8) :: ((189 : UInt8) :: []))))) * 2)) then
        L15_3 n (t3 ++ ((239 : UInt8) :: ((191 : UInt8) :: ((189 : UInt8) :: [])))) t6 t7 (Go.IntKind.wrap Go.IntKind.i64 (t8 + (1 : Int)))
        else none
      else
      bif (room (((List.length t3) + (List.length ((239 : UInt8) :: ((191 : UInt8) :: ((189 : UInt8) :: []))))) * 2)) then
      L15_3 n (t3 ++ ((239 : UInt8) :: ((191 : UInt8) :: ((189 : UInt8) :: [])))) t6 t7 (Go.IntKind.wrap Go.IntKind.i64 (t8 + (1 : Int)))
      else none
      else none
    else
    some ((t3, ()), ())
noncomputable def L15_3_it : LoopIt := ⟨15, 3, none, L15_3_T, [(.exit 0, L15_3_Xexit0)], 2, fun n x => L15_3 n x.1.1 x.1.2.1 x.1.2.2.1 x.1.2.2.2.1⟩
theorem L15_3_Xexit0_ok : L15_3_Xexit0.ok Go.Proofs.Tryd.prog hint := by
  intro p hp
  cases hp
theorem L15_3_T_ok : L15_3_T.ok Go.Proofs.Tryd.prog hint := by
  intro p hp
  cases hp
theorem L15_3_ok : ∀ n, LoopOK Go.Proofs.Tryd.prog hint shT L15_3_it n :=
  LoopOK.of (hk := fun β => (Known.mk [points_it, form_it, fits_it, dr_it, drs_it, is_it, unit_it, bytesR_it, sameInts_it, pointsR_it, smallR_it, pointR_it, pairsR_it, unitsR_it, formR_it, isR_it, right_it, alive_it] [L36_0_it, L34_0_71_it, L34_0_it, L11_2_it, L24_2_it, L37_2_it, L35_3_it, L16_3_it, L14_4_it, L10_10_it, L19_3_it, L31_23_it, L21_3_it, L20_3_it, L20_7_65_it, L20_7_it, L25_4_it]).hk β) (sh := shT) (OneLoop.of (by kernel_rfl)) L15_3_T_ok ⟨⟨L15_3_Xexit0_ok, Nat.le_refl _, Nat.le_refl _⟩, trivial⟩ (fun m => KnownOK.hook (((((((((((((((((((((((((((((((((((KnownOK.nil.fn alive_ok).fn right_ok).loop L25_4_ok L25_4_T_ok).fn isR_ok).fn formR_ok).loop L20_7_ok L20_7_T_ok).loop L20_7_65_ok L20_7_65_T_ok).loop L20_3_ok L20_3_T_ok).fn unitsR_ok).loop L21_3_ok L21_3_T_ok).fn pairsR_ok).loop L31_23_ok L31_23_T_ok).fn pointR_ok).loop L19_3_ok L19_3_T_ok).fn smallR_ok).loop L10_10_ok L10_10_T_ok).fn pointsR_ok).loop L14_4_ok L14_4_T_ok).fn sameInts_ok).loop L16_3_ok L16_3_T_ok).fn bytesR_ok).loop L35_3_ok L35_3_T_ok).fn unit_ok).fn is_ok).fn drs_ok).loop L37_2_ok L37_2_T_ok).fn dr_ok).loop L24_2_ok L24_2_T_ok).fn fits_ok).loop L11_2_ok L11_2_T_ok).fn form_ok).loop L34_0_ok L34_0_T_ok).loop L34_0_71_ok L34_0_71_T_ok).loop L36_0_ok L36_0_T_ok).fn points_ok) m)
    (fun _ => by kernel_rfl) (fun m x => by kernel_rfl)

noncomputable def bytes (n : Nat) (l : List Int) : Option ((List UInt8) × Unit) :=
  Option.bind (L15_3 n [] l (len l) (0 : Int)) fun y8 =>
  some (y8.1.1, ())
noncomputable def bytes_it : FnIt := ⟨15, [(false, (.slc (.int .i64)))], [(false, (.slc .byte))], 2, fun n x => bytes n x.1⟩
theorem bytes_ok (n : Nat) : FnOK Go.Proofs.Tryd.prog hint shT bytes_it n :=
  FnOK.of (hk := fun β => (Known.mk [points_it, form_it, fits_it, dr_it, drs_it, is_it, unit_it, bytesR_it, sameInts_it, pointsR_it, smallR_it, pointR_it, pairsR_it, unitsR_it, formR_it, isR_it, right_it, alive_it] [L15_3_it, L36_0_it, L34_0_71_it, L34_0_it, L11_2_it, L24_2_it, L37_2_it, L35_3_it, L16_3_it, L14_4_it, L10_10_it, L19_3_it, L31_23_it, L21_3_it, L20_3_it, L20_7_65_it, L20_7_it, L25_4_it]).hk β) (sh := shT) (fun m _ => KnownOK.hook ((((((((((((((((((((((((((((((((((((KnownOK.nil.fn alive_ok).fn right_ok).loop L25_4_ok L25_4_T_ok).fn isR_ok).fn formR_ok).loop L20_7_ok L20_7_T_ok).loop L20_7_65_ok L20_7_65_T_ok).loop L20_3_ok L20_3_T_ok).fn unitsR_ok).loop L21_3_ok L21_3_T_ok).fn pairsR_ok).loop L31_23_ok L31_23_T_ok).fn pointR_ok).loop L19_3_ok L19_3_T_ok).fn smallR_ok).loop L10_10_ok L10_10_T_ok).fn pointsR_ok).loop L14_4_ok L14_4_T_ok).fn sameInts_ok).loop L16_3_ok L16_3_T_ok).fn bytesR_ok).loop L35_3_ok L35_3_T_ok).fn unit_ok).fn is_ok).fn drs_ok).loop L37_2_ok L37_2_T_ok).fn dr_ok).loop L24_2_ok L24_2_T_ok).fn fits_ok).loop L11_2_ok L11_2_T_ok).fn form_ok).loop L34_0_ok L34_0_T_ok).loop L34_0_71_ok L34_0_71_T_ok).loop L36_0_ok L36_0_T_ok).fn points_ok).loop L15_3_ok L15_3_T_ok) m) (fun x => by kernel_rfl)

noncomputable def utfPoints (n : Nat) (b : List UInt8) : Option (Bool × Unit) :=
  Option.bind (alive n ) fun y0 =>
  bif (!y0.1) then
    some (y0.1, ())
  else
  bif (Go.Iv.ilt (2000 : Int) (len b)) then
    some (y0.1, ())
  else
  Option.bind (points (n + 6) b) fun y1 =>
  Option.bind (pointsR (n + 8) b) fun y2 =>
  Option.bind (form (n + 9) b) fun y3 =>
  Option.bind (formR (n + 9) b) fun y4 =>
  bif (y1.2.1 == y2.2.1) then
    Option.bind (sameInts (n + 10) y1.1 y2.1) fun y5 =>
    bif y5.1 then
      bif (y3.1 == y4.1) then
        some ((y3.2.1 == y4.2.1), ())
      else
      some (Bool.false, ())
    else
    some (Bool.false, ())
  else
  some (Bool.false, ())
noncomputable def utfPoints_it : FnIt := ⟨3, [(false, (.slc .byte))], [(false, .bool)], 12, fun n x => utfPoints n x.1⟩
theorem utfPoints_ok (n : Nat) : FnOK Go.Proofs.Tryd.prog hint shT utfPoints_it n :=
  FnOK.of (hk := fun β => (Known.mk [bytes_it, points_it, form_it, fits_it, dr_it, drs_it, is_it, unit_it, bytesR_it, sameInts_it, pointsR_it, smallR_it, pointR_it, pairsR_it, unitsR_it, formR_it, isR_it, right_it, alive_it] [L15_3_it, L36_0_it, L34_0_71_it, L34_0_it, L11_2_it, L24_2_it, L37_2_it, L35_3_it, L16_3_it, L14_4_it, L10_10_it, L19_3_it, L31_23_it, L21_3_it, L20_3_it, L20_7_65_it, L20_7_it, L25_4_it]).hk β) (sh := shT) (fun m _ => KnownOK.hook (((((((((((((((((((((((((((((((((((((KnownOK.nil.fn alive_ok).fn right_ok).loop L25_4_ok L25_4_T_ok).fn isR_ok).fn formR_ok).loop L20_7_ok L20_7_T_ok).loop L20_7_65_ok L20_7_65_T_ok).loop L20_3_ok L20_3_T_ok).fn unitsR_ok).loop L21_3_ok L21_3_T_ok).fn pairsR_ok).loop L31_23_ok L31_23_T_ok).fn pointR_ok).loop L19_3_ok L19_3_T_ok).fn smallR_ok).loop L10_10_ok L10_10_T_ok).fn pointsR_ok).loop L14_4_ok L14_4_T_ok).fn sameInts_ok).loop L16_3_ok L16_3_T_ok).fn bytesR_ok).loop L35_3_ok L35_3_T_ok).fn unit_ok).fn is_ok).fn drs_ok).loop L37_2_ok L37_2_T_ok).fn dr_ok).loop L24_2_ok L24_2_T_ok).fn fits_ok).loop L11_2_ok L11_2_T_ok).fn form_ok).loop L34_0_ok L34_0_T_ok).loop L34_0_71_ok L34_0_71_T_ok).loop L36_0_ok L36_0_T_ok).fn points_ok).loop L15_3_ok L15_3_T_ok).fn bytes_ok) m) (fun x => by kernel_rfl)

noncomputable def L4_22_Xexit4 : Tm := ⟨[(0, .one (.lst (.int .i64))), (1, .one (.bool)), (2, .one (.bool)), (8, .one (.all 71 5 .byte true)), (9, .one (.all 72 3 (.int .i64) false)), (10, .one (.int .i64)), (12, .one (.all 73 3 (.int .i64) false)), (13, .one (.int .i64)), (14, .one (.int .i64))], [], 71, 74, 3006⟩
noncomputable def L4_22_T : Tm := ⟨[(0, .one (.lst (.int .i64))), (1, .one (.bool)), (2, .one (.bool)), (8, .one (.all 71 5 .byte true)), (9, .one (.all 72 3 (.int .i64) false)), (10, .one (.int .i64)), (12, .one (.all 73 3 (.int .i64) false)), (13, .one (.int .i64)), (14, .one (.int .i64)), (15, .one (.int .i64))], [], 71, 74, 3006⟩
noncomputable def L4_22 : Nat → (List Int) → Bool → Bool → (List UInt8) → (List Int) → Int → (List Int) → Int → Int → Int → Option (((List Int) × (Bool × (Bool × ((List UInt8) × ((List Int) × (Int × ((List Int) × (Int × (Int × Unit))))))))) × Unit)
  | 0, _, _, _, _, _, _, _, _, _, _ => none
  | n + 1, t0, t1, t2, t8, t9, t10, t12, t13, t14, t15 =>
    bif (Go.Iv.ilt t15 t13) then
      bif t2 then
        bif ((Go.Iv.ile (0 : Int) t14) && (Go.Iv.ilt t14 (len t12))) then
        Option.bind (t12[(Int.toNat t14)]?) fun x8 =>
        bif (Go.Iv.ile (0 : Int) (Go.IntKind.wrap Go.IntKind.u64 (Go.IntKind.wrap Go.IntKind.i64 ((8 : Int) * (Go.IntKind.wrap Go.IntKind.i64 ((Go.IntKind.wrap Go.IntKind.i64 (t13 - (1 : Int))) - t15)))))) then
        bif (room (((List.length t8) + (List.length ((UInt8.ofNat (Int.toNat (Go.IntKind.wrap Go.IntKind.u8 (shrI Go.IntKind.i64 x8 (Int.toNat (Go.IntKind.wrap Go.IntKind.u64 (Go.IntKind.wrap Go.IntKind.i64 ((8 : Int) * (Go.IntKind.wrap Go.IntKind.i64 ((Go.IntKind.wrap Go.IntKind.i64 (t13 - (1 : Int))) - t15)))))))))) :: []))) * 2)) then
        L4_22 n t0 t1 t2 (t8 ++ ((UInt8.ofNat (Int.toNat (Go.IntKind.wrap Go.IntKind.u8 (shrI Go.IntKind.i64 x8 (Int.toNat (Go.IntKind.wrap Go.IntKind.u64 (Go.IntKind.wrap Go.IntKind.i64 ((8 : Int) * (Go.IntKind.wrap Go.IntKind.i64 ((Go.IntKind.wrap Go.IntKind.i64 (t13 - (1 : Int))) - t15)))))))))) :: [])) t9 t10 t12 t13 t14 (Go.IntKind.wrap Go.IntKind.i64 (t15 + (1 : Int)))
        else none
        else none
        else none
      else
      bif ((Go.Iv.ile (0 : Int) t14) && (Go.Iv.ilt t14 (len t12))) then
      Option.bind (t12[(Int.toNat t14)]?) fun x9 =>
      bif (Go.Iv.ile (0 : Int) (Go.IntKind.wrap Go.IntKind.u64 (Go.IntKind.wrap Go.IntKind.i64 ((8 : Int) * t15)))) then
      bif (room (((List.length t8) + (List.length ((UInt8.ofNat (Int.toNat (Go.IntKind.wrap Go.IntKind.u8 (shrI Go.IntKind.i64 x9 (Int.toNat (Go.IntKind.wrap Go.IntKind.u64 (Go.IntKind.wrap Go.IntKind.i64 ((8 : Int) * t15)))))))) :: []))) * 2)) then
      L4_22 n t0 t1 t2 (t8 ++ ((UInt8.ofNat (Int.toNat (Go.IntKind.wrap Go.IntKind.u8 (shrI Go.IntKind.i64 x9 (Int.toNat (Go.IntKind.wrap Go.IntKind.u64 (Go.IntKind.wrap Go.IntKind.i64 ((8 : Int) * t15)))))))) :: [])) t9 t10 t12 t13 t14 (Go.IntKind.wrap Go.IntKind.i64 (t15 + (1 : Int)))
      else none
      else none
      else none
    else
    some ((t0, (t1, (t2, (t8, (t9, (t10, (t12, (t13, (t14, ()))))))))), ())
noncomputable def L4_22_it : LoopIt := ⟨4, 22, none, L4_22_T, [(.exit 4, L4_22_Xexit4)], 0, fun n x => L4_22 n x.1.1 x.1.2.1 x.1.2.2.1 x.1.2.2.2.1 x.1.2.2.2.2.1 x.1.2.2.2.2.2.1 x.1.2.2.2.2.2.2.1 x.1.2.2.2.2.2.2.2.1 x.1.2.2.2.2.2.2.2.2.1 x.1.2.2.2.2.2.2.2.2.2.1⟩
theorem L4_22_Xexit4_ok : L4_22_Xexit4.ok Go.Proofs.Tryd.prog hint := by
  intro p hp
  cases hp
theorem L4_22_T_ok : L4_22_T.ok Go.Proofs.Tryd.prog hint := by
  intro p hp
  cases hp
theorem L4_22_ok : ∀ n, LoopOK Go.Proofs.Tryd.prog hint shT L4_22_it n :=
  LoopOK.of (hk := fun β => (Known.mk [utfPoints_it, bytes_it, points_it, form_it, fits_it, dr_it, drs_it, is_it, unit_it, bytesR_it, sameInts_it, pointsR_it, smallR_it, pointR_it, pairsR_it, unitsR_it, formR_it, isR_it, right_it, alive_it] [L15_3_it, L36_0_it, L34_0_71_it, L34_0_it, L11_2_it, L24_2_it, L37_2_it, L35_3_it, L16_3_it, L14_4_it, L10_10_it, L19_3_it, L31_23_it, L21_3_it, L20_3_it, L20_7_65_it, L20_7_it, L25_4_it]).hk β) (sh := shT) (OneLoop.of (by kernel_rfl)) L4_22_T_ok ⟨⟨L4_22_Xexit4_ok, Nat.le_refl _, Nat.le_refl _⟩, trivial⟩ (fun m => KnownOK.hook ((((((((((((((((((((((((((((((((((((((KnownOK.nil.fn alive_ok).fn right_ok).loop L25_4_ok L25_4_T_ok).fn isR_ok).fn formR_ok).loop L20_7_ok L20_7_T_ok).loop L20_7_65_ok L20_7_65_T_ok).loop L20_3_ok L20_3_T_ok).fn unitsR_ok).loop L21_3_ok L21_3_T_ok).fn pairsR_ok).loop L31_23_ok L31_23_T_ok).fn pointR_ok).loop L19_3_ok L19_3_T_ok).fn smallR_ok).loop L10_10_ok L10_10_T_ok).fn pointsR_ok).loop L14_4_ok L14_4_T_ok).fn sameInts_ok).loop L16_3_ok L16_3_T_ok).fn bytesR_ok).loop L35_3_ok L35_3_T_ok).fn unit_ok).fn is_ok).fn drs_ok).loop L37_2_ok L37_2_T_ok).fn dr_ok).loop L24_2_ok L24_2_T_ok).fn fits_ok).loop L11_2_ok L11_2_T_ok).fn form_ok).loop L34_0_ok L34_0_T_ok).loop L34_0_71_ok L34_0_71_T_ok).loop L36_0_ok L36_0_T_ok).fn points_ok).loop L15_3_ok L15_3_T_ok).fn bytes_ok).fn utfPoints_ok) m)
    (fun _ => by kernel_rfl) (fun m x => by kernel_rfl)

noncomputable def L4_22_72_Xexit4 : Tm := ⟨[(0, .one (.lst (.int .i64))), (1, .one (.bool)), (2, .one (.bool)), (8, .one (.all 72 5 .byte true)), (9, .one (.all 73 3 (.int .i64) false)), (10, .one (.int .i64)), (12, .one (.all 74 3 (.int .i64) false)), (13, .one (.int .i64)), (14, .one (.int .i64))], [], 72, 75, 3006⟩
noncomputable def L4_22_72_T : Tm := ⟨[(0, .one (.lst (.int .i64))), (1, .one (.bool)), (2, .one (.bool)), (8, .one (.all 72 5 .byte true)), (9, .one (.all 73 3 (.int .i64) false)), (10, .one (.int .i64)), (12, .one (.all 74 3 (.int .i64) false)), (13, .one (.int .i64)), (14, .one (.int .i64)), (15, .one (.int .i64))], [], 72, 75, 3006⟩
noncomputable def L4_22_72 : Nat → (List Int) → Bool → Bool → (List UInt8) → (List Int) → Int → (List Int) → Int → Int → Int → Option (((List Int) × (Bool × (Bool × ((List UInt8) × ((List Int) × (Int × ((List Int) × (Int × (Int × Unit))))))))) × Unit)
  | 0, _, _, _, _, _, _, _, _, _, _ => none
  | n + 1, t0, t1, t2, t8, t9, t10, t12, t13, t14, t15 =>
    bif (Go.Iv.ilt t15 t13) then
      bif t2 then
        bif ((Go.Iv.ile (0 : Int) t14) && (Go.Iv.ilt t14 (len t12))) then
        Option.bind (t12[(Int.toNat t14)]?) fun x15 =>
        bif (Go.Iv.ile (0 : Int) (Go.IntKind.wrap Go.IntKind.u64 (Go.IntKind.wrap Go.IntKind.i64 ((8 : Int) * (Go.IntKind.wrap Go.IntKind.i64 ((Go.IntKind.wrap Go.IntKind.i64 (t13 - (1 : Int))) - t15)))))) then
        bif (room (((List.length t8) + (List.length ((UInt8.ofNat (Int.toNat (Go.IntKind.wrap Go.IntKind.u8 (shrI Go.IntKind.i64 x15 (Int.toNat (Go.IntKind.wrap Go.IntKind.u64 (Go.IntKind.wrap Go.IntKind.i64 ((8 : Int) * (Go.IntKind.wrap Go.IntKind.i64 ((Go.IntKind.wrap Go.IntKind.i64 (t13 - (1 : Int))) - t15)))))))))) :: []))) * 2)) then
        L4_22_72 n t0 t1 t2 (t8 ++ ((UInt8.ofNat (Int.toNat (Go.IntKind.wrap Go.IntKind.u8 (shrI Go.IntKind.i64 x15 (Int.toNat (Go.IntKind.wrap Go.IntKind.u64 (Go.IntKind.wrap Go.IntKind.i64 ((8 : Int) * (Go.IntKind.wrap Go.IntKind.i64 ((Go.IntKind.wrap Go.IntKind.i64 (t13 - (1 : Int))) - t15)))))))))) :: [])) t9 t10 t12 t13 t14 (Go.IntKind.wrap Go.IntKind.i64 (t15 + (1 : Int)))
        else none
        else none
        else none
      else
      bif ((Go.Iv.ile (0 : Int) t14) && (Go.Iv.ilt t14 (len t12))) then
      Option.bind (t12[(Int.toNat t14)]?) fun x16 =>
      bif (Go.Iv.ile (0 : Int) (Go.IntKind.wrap Go.IntKind.u64 (Go.IntKind.wrap Go.IntKind.i64 ((8 : Int) * t15)))) then
      bif (room (((List.length t8) + (List.length ((UInt8.ofNat (Int.toNat (Go.IntKind.wrap Go.IntKind.u8 (shrI Go.IntKind.i64 x16 (Int.toNat (Go.IntKind.wrap Go.IntKind.u64 (Go.IntKind.wrap Go.IntKind.i64 ((8 : Int) * t15)))))))) :: []))) * 2)) then
      L4_22_72 n t0 t1 t2 (t8 ++ ((UInt8.ofNat (Int.toNat (Go.IntKind.wrap Go.IntKind.u8 (shrI Go.IntKind.i64 x16 (Int.toNat (Go.IntKind.wrap Go.IntKind.u64 (Go.IntKind.wrap Go.IntKind.i64 ((8 : Int) * t15)))))))) :: [])) t9 t10 t12 t13 t14 (Go.IntKind.wrap Go.IntKind.i64 (t15 + (1 : Int)))
      else none
      else none
      else none
    else
    some ((t0, (t1, (t2, (t8, (t9, (t10, (t12, (t13, (t14, ()))))))))), ())
noncomputable def L4_22_72_it : LoopIt := ⟨4, 22, none, L4_22_72_T, [(.exit 4, L4_22_72_Xexit4)], 0, fun n x => L4_22_72 n x.1.1 x.1.2.1 x.1.2.2.1 x.1.2.2.2.1 x.1.2.2.2.2.1 x.1.2.2.2.2.2.1 x.1.2.2.2.2.2.2.1 x.1.2.2.2.2.2.2.2.1 x.1.2.2.2.2.2.2.2.2.1 x.1.2.2.2.2.2.2.2.2.2.1⟩
theorem L4_22_72_Xexit4_ok : L4_22_72_Xexit4.ok Go.Proofs.Tryd.prog hint := by
  intro p hp
  cases hp
theorem L4_22_72_T_ok : L4_22_72_T.ok Go.Proofs.Tryd.prog hint := by
  intro p hp
  cases hp
theorem L4_22_72_ok : ∀ n, LoopOK Go.Proofs.Tryd.prog hint shT L4_22_72_it n :=
  LoopOK.of (hk := fun β => (Known.mk [utfPoints_it, bytes_it, points_it, form_it, fits_it, dr_it, drs_it, is_it, unit_it, bytesR_it, sameInts_it, pointsR_it, smallR_it, pointR_it, pairsR_it, unitsR_it, formR_it, isR_it, right_it, alive_it] [L4_22_it, L15_3_it, L36_0_it, L34_0_71_it, L34_0_it, L11_2_it, L24_2_it, L37_2_it, L35_3_it, L16_3_it, L14_4_it, L10_10_it, L19_3_it, L31_23_it, L21_3_it, L20_3_it, L20_7_65_it, L20_7_it, L25_4_it]).hk β) (sh := shT) (OneLoop.of (by kernel_rfl)) L4_22_72_T_ok ⟨⟨L4_22_72_Xexit4_ok, Nat.le_refl _, Nat.le_refl _⟩, trivial⟩ (fun m => KnownOK.hook (((((((((((((((((((((((((((((((((((((((KnownOK.nil.fn alive_ok).fn right_ok).loop L25_4_ok L25_4_T_ok).fn isR_ok).fn formR_ok).loop L20_7_ok L20_7_T_ok).loop L20_7_65_ok L20_7_65_T_ok).loop L20_3_ok L20_3_T_ok).fn unitsR_ok).loop L21_3_ok L21_3_T_ok).fn pairsR_ok).loop L31_23_ok L31_23_T_ok).fn pointR_ok).loop L19_3_ok L19_3_T_ok).fn smallR_ok).loop L10_10_ok L10_10_T_ok).fn pointsR_ok).loop L14_4_ok L14_4_T_ok).fn sameInts_ok).loop L16_3_ok L16_3_T_ok).fn bytesR_ok).loop L35_3_ok L35_3_T_ok).fn unit_ok).fn is_ok).fn drs_ok).loop L37_2_ok L37_2_T_ok).fn dr_ok).loop L24_2_ok L24_2_T_ok).fn fits_ok).loop L11_2_ok L11_2_T_ok).fn form_ok).loop L34_0_ok L34_0_T_ok).loop L34_0_71_ok L34_0_71_T_ok).loop L36_0_ok L36_0_T_ok).fn points_ok).loop L15_3_ok L15_3_T_ok).fn bytes_ok).fn utfPoints_ok).loop L4_22_ok L4_22_T_ok) m)
    (fun _ => by kernel_rfl) (fun m x => by kernel_rfl)

noncomputable def L4_19_Xexit2 : Tm := ⟨[(0, .one (.lst (.int .i64))), (1, .one (.bool)), (2, .one (.bool)), (8, .one (.all 69 5 .byte true)), (9, .one (.all 70 3 (.int .i64) false)), (10, .one (.int .i64))], [], 69, 71, 2005⟩
noncomputable def L4_19_T : Tm := ⟨[(0, .one (.lst (.int .i64))), (1, .one (.bool)), (2, .one (.bool)), (8, .one (.all 69 5 .byte true)), (9, .one (.all 70 3 (.int .i64) false)), (10, .one (.int .i64)), (12, .one (.all 71 3 (.int .i64) false)), (13, .one (.int .i64)), (14, .one (.int .i64))], [], 69, 72, 2005⟩
noncomputable def L4_19 : Nat → (List Int) → Bool → Bool → (List UInt8) → (List Int) → Int → (List Int) → Int → Int → Option (((List Int) × (Bool × (Bool × ((List UInt8) × ((List Int) × (Int × Unit)))))) × Unit)
  | 0, _, _, _, _, _, _, _, _, _ => none
  | n + 1, t0, t1, t2, t8, t9, t10, t12, t13, t14 =>
    bif (Go.Iv.ilt t14 (len t12)) then
      Option.bind (L4_22_72 (n + 2) t0 t1 t2 t8 t9 t10 t12 t13 t14 (0 : Int)) fun y19 =>
      L4_19 n y19.1.1 y19.1.2.1 y19.1.2.2.1 y19.1.2.2.2.1 y19.1.2.2.2.2.1 y19.1.2.2.2.2.2.1 y19.1.2.2.2.2.2.2.1 y19.1.2.2.2.2.2.2.2.1 (Go.IntKind.wrap Go.IntKind.i64 (y19.1.2.2.2.2.2.2.2.2.1 + (1 : Int)))
    else
    some ((t0, (t1, (t2, (t8, (t9, (t10, ())))))), ())
noncomputable def L4_19_it : LoopIt := ⟨4, 19, none, L4_19_T, [(.exit 2, L4_19_Xexit2)], 1, fun n x => L4_19 n x.1.1 x.1.2.1 x.1.2.2.1 x.1.2.2.2.1 x.1.2.2.2.2.1 x.1.2.2.2.2.2.1 x.1.2.2.2.2.2.2.1 x.1.2.2.2.2.2.2.2.1 x.1.2.2.2.2.2.2.2.2.1⟩
theorem L4_19_Xexit2_ok : L4_19_Xexit2.ok Go.Proofs.Tryd.prog hint := by
  intro p hp
  cases hp
theorem L4_19_T_ok : L4_19_T.ok Go.Proofs.Tryd.prog hint := by
  intro p hp
  cases hp
theorem L4_19_ok : ∀ n, LoopOK Go.Proofs.Tryd.prog hint shT L4_19_it n :=
  LoopOK.of (hk := fun β => (Known.mk [utfPoints_it, bytes_it, points_it, form_it, fits_it, dr_it, drs_it, is_it, unit_it, bytesR_it, sameInts_it, pointsR_it, smallR_it, pointR_it, pairsR_it, unitsR_it, formR_it, isR_it, right_it, alive_it] [L4_22_72_it, L4_22_it, L15_3_it, L36_0_it, L34_0_71_it, L34_0_it, L11_2_it, L24_2_it, L37_2_it, L35_3_it, L16_3_it, L14_4_it, L10_10_it, L19_3_it, L31_23_it, L21_3_it, L20_3_it, L20_7_65_it, L20_7_it, L25_4_it]).hk β) (sh := shT) (OneLoop.of (by kernel_rfl)) L4_19_T_ok ⟨⟨L4_19_Xexit2_ok, Nat.le_refl _, Nat.le_refl _⟩, trivial⟩ (fun m => KnownOK.hook ((((((((((((((((((((((((((((((((((((((((KnownOK.nil.fn alive_ok).fn right_ok).loop L25_4_ok L25_4_T_ok).fn isR_ok).fn formR_ok).loop L20_7_ok L20_7_T_ok).loop L20_7_65_ok L20_7_65_T_ok).loop L20_3_ok L20_3_T_ok).fn unitsR_ok).loop L21_3_ok L21_3_T_ok).fn pairsR_ok).loop L31_23_ok L31_23_T_ok).fn pointR_ok).loop L19_3_ok L19_3_T_ok).fn smallR_ok).loop L10_10_ok L10_10_T_ok).fn pointsR_ok).loop L14_4_ok L14_4_T_ok).fn sameInts_ok).loop L16_3_ok L16_3_T_ok).fn bytesR_ok).loop L35_3_ok L35_3_T_ok).fn unit_ok).fn is_ok).fn drs_ok).loop L37_2_ok L37_2_T_ok).fn dr_ok).loop L24_2_ok L24_2_T_ok).fn fits_ok).loop L11_2_ok L11_2_T_ok).fn form_ok).loop L34_0_ok L34_0_T_ok).loop L34_0_71_ok L34_0_71_T_ok).loop L36_0_ok L36_0_T_ok).fn points_ok).loop L15_3_ok L15_3_T_ok).fn bytes_ok).fn utfPoints_ok).loop L4_22_ok L4_22_T_ok).loop L4_22_72_ok L4_22_72_T_ok) m)
    (fun _ => by kernel_rfl) (fun m x => by kernel_rfl)

noncomputable def L4_22_70_Xexit4 : Tm := ⟨[(0, .one (.lst (.int .i64))), (1, .one (.bool)), (2, .one (.bool)), (8, .one (.all 70 5 .byte true)), (9, .one (.all 71 3 (.int .i64) false)), (10, .one (.int .i64)), (12, .one (.all 72 3 (.int .i64) false)), (13, .one (.int .i64)), (14, .one (.int .i64))], [], 70, 73, 3005⟩
noncomputable def L4_22_70_T : Tm := ⟨[(0, .one (.lst (.int .i64))), (1, .one (.bool)), (2, .one (.bool)), (8, .one (.all 70 5 .byte true)), (9, .one (.all 71 3 (.int .i64) false)), (10, .one (.int .i64)), (12, .one (.all 72 3 (.int .i64) false)), (13, .one (.int .i64)), (14, .one (.int .i64)), (15, .one (.int .i64))], [], 70, 73, 3005⟩
noncomputable def L4_22_70 : Nat → (List Int) → Bool → Bool → (List UInt8) → (List Int) → Int → (List Int) → Int → Int → Int → Option (((List Int) × (Bool × (Bool × ((List UInt8) × ((List Int) × (Int × ((List Int) × (Int × (Int × Unit))))))))) × Unit)
  | 0, _, _, _, _, _, _, _, _, _, _ => none
  | n + 1, t0, t1, t2, t8, t9, t10, t12, t13, t14, t15 =>
    bif (Go.Iv.ilt t15 t13) then
      bif t2 then
        bif ((Go.Iv.ile (0 : Int) t14) && (Go.Iv.ilt t14 (len t12))) then
        Option.bind (t12[(Int.toNat t14)]?) fun x27 =>
        bif (Go.Iv.ile (0 : Int) (Go.IntKind.wrap Go.IntKind.u64 (Go.IntKind.wrap Go.IntKind.i64 ((8 : Int) * (Go.IntKind.wrap Go.IntKind.i64 ((Go.IntKind.wrap Go.IntKind.i64 (t13 - (1 : Int))) - t15)))))) then
        bif (room (((List.length t8) + (List.length ((UInt8.ofNat (Int.toNat (Go.IntKind.wrap Go.IntKind.u8 (shrI Go.IntKind.i64 x27 (Int.toNat (Go.IntKind.wrap Go.IntKind.u64 (Go.IntKind.wrap Go.IntKind.i64 ((8 : Int) * (Go.IntKind.wrap Go.IntKind.i64 ((Go.IntKind.wrap Go.IntKind.i64 (t13 - (1 : Int))) - t15)))))))))) :: []))) * 2)) then
        L4_22_70 n t0 t1 t2 (t8 ++ ((UInt8.ofNat (Int.toNat (Go.IntKind.wrap Go.IntKind.u8 (shrI Go.IntKind.i64 x27 (Int.toNat (Go.IntKind.wrap Go.IntKind.u64 (Go.IntKind.wrap Go.IntKind.i64 ((8 : Int) * (Go.IntKind.wrap Go.IntKind.i64 ((Go.IntKind.wrap Go.IntKind.i64 (t13 - (1 : Int))) - t15)))))))))) :: [])) t9 t10 t12 t13 t14 (Go.IntKind.wrap Go.IntKind.i64 (t15 + (1 : Int)))
        else none
        else none
        else none
      else
      bif ((Go.Iv.ile (0 : Int) t14) && (Go.Iv.ilt t14 (len t12))) then
      Option.bind (t12[(Int.toNat t14)]?) fun x28 =>
      bif (Go.Iv.ile (0 : Int) (Go.IntKind.wrap Go.IntKind.u64 (Go.IntKind.wrap Go.IntKind.i64 ((8 : Int) * t15)))) then
      bif (room (((List.length t8) + (List.length ((UInt8.ofNat (Int.toNat (Go.IntKind.wrap Go.IntKind.u8 (shrI Go.IntKind.i64 x28 (Int.toNat (Go.IntKind.wrap Go.IntKind.u64 (Go.IntKind.wrap Go.IntKind.i64 ((8 : Int) * t15)))))))) :: []))) * 2)) then
      L4_22_70 n t0 t1 t2 (t8 ++ ((UInt8.ofNat (Int.toNat (Go.IntKind.wrap Go.IntKind.u8 (shrI Go.IntKind.i64 x28 (Int.toNat (Go.IntKind.wrap Go.IntKind.u64 (Go.IntKind.wrap Go.IntKind.i64 ((8 : Int) * t15)))))))) :: [])) t9 t10 t12 t13 t14 (Go.IntKind.wrap Go.IntKind.i64 (t15 + (1 : Int)))
      else none
      else none
      else none
    else
    some ((t0, (t1, (t2, (t8, (t9, (t10, (t12, (t13, (t14, ()))))))))), ())
noncomputable def L4_22_70_it : LoopIt := ⟨4, 22, none, L4_22_70_T, [(.exit 4, L4_22_70_Xexit4)], 0, fun n x => L4_22_70 n x.1.1 x.1.2.1 x.1.2.2.1 x.1.2.2.2.1 x.1.2.2.2.2.1 x.1.2.2.2.2.2.1 x.1.2.2.2.2.2.2.1 x.1.2.2.2.2.2.2.2.1 x.1.2.2.2.2.2.2.2.2.1 x.1.2.2.2.2.2.2.2.2.2.1⟩
theorem L4_22_70_Xexit4_ok : L4_22_70_Xexit4.ok Go.Proofs.Tryd.prog hint := by
  intro p hp
  cases hp
theorem L4_22_70_T_ok : L4_22_70_T.ok Go.Proofs.Tryd.prog hint := by
  intro p hp
  cases hp
theorem L4_22_70_ok : ∀ n, LoopOK Go.Proofs.Tryd.prog hint shT L4_22_70_it n :=
  LoopOK.of (hk := fun β => (Known.mk [utfPoints_it, bytes_it, points_it, form_it, fits_it, dr_it, drs_it, is_it, unit_it, bytesR_it, sameInts_it, pointsR_it, smallR_it, pointR_it, pairsR_it, unitsR_it, formR_it, isR_it, right_it, alive_it] [L4_19_it, L4_22_72_it, L4_22_it, L15_3_it, L36_0_it, L34_0_71_it, L34_0_it, L11_2_it, L24_2_it, L37_2_it, L35_3_it, L16_3_it, L14_4_it, L10_10_it, L19_3_it, L31_23_it, L21_3_it, L20_3_it, L20_7_65_it, L20_7_it, L25_4_it]).hk β) (sh := shT) (OneLoop.of (by kernel_rfl)) L4_22_70_T_ok ⟨⟨L4_22_70_Xexit4_ok, Nat.le_refl _, Nat.le_refl _⟩, trivial⟩ (fun m => KnownOK.hook (((((((((((((((((((((((((((((((((((((((((KnownOK.nil.fn alive_ok).fn right_ok).loop L25_4_ok L25_4_T_ok).fn isR_ok).fn formR_ok).loop L20_7_ok L20_7_T_ok).loop L20_7_65_ok L20_7_65_T_ok).loop L20_3_ok L20_3_T_ok).fn unitsR_ok).loop L21_3_ok L21_3_T_ok).fn pairsR_ok).loop L31_23_ok L31_23_T_ok).fn pointR_ok).loop L19_3_ok L19_3_T_ok).fn smallR_ok).loop L10_10_ok L10_10_T_ok).fn pointsR_ok).loop L14_4_ok L14_4_T_ok).fn sameInts_ok).loop L16_3_ok L16_3_T_ok).fn bytesR_ok).loop L35_3_ok L35_3_T_ok).fn unit_ok).fn is_ok).fn drs_ok).loop L37_2_ok L37_2_T_ok).fn dr_ok).loop L24_2_ok L24_2_T_ok).fn fits_ok).loop L11_2_ok L11_2_T_ok).fn form_ok).loop L34_0_ok L34_0_T_ok).loop L34_0_71_ok L34_0_71_T_ok).loop L36_0_ok L36_0_T_ok).fn points_ok).loop L15_3_ok L15_3_T_ok).fn bytes_ok).fn utfPoints_ok).loop L4_22_ok L4_22_T_ok).loop L4_22_72_ok L4_22_72_T_ok).loop L4_19_ok L4_19_T_ok) m)
    (fun _ => by kernel_rfl) (fun m x => by kernel_rfl)

noncomputable def L4_19_68_Xexit2 : Tm := ⟨[(0, .one (.lst (.int .i64))), (1, .one (.bool)), (2, .one (.bool)), (8, .one (.all 68 5 .byte true)), (9, .one (.all 69 3 (.int .i64) false)), (10, .one (.int .i64))], [], 68, 70, 2004⟩
noncomputable def L4_19_68_T : Tm := ⟨[(0, .one (.lst (.int .i64))), (1, .one (.bool)), (2, .one (.bool)), (8, .one (.all 68 5 .byte true)), (9, .one (.all 69 3 (.int .i64) false)), (10, .one (.int .i64)), (12, .one (.all 70 3 (.int .i64) false)), (13, .one (.int .i64)), (14, .one (.int .i64))], [], 68, 71, 2004⟩
noncomputable def L4_19_68 : Nat → (List Int) → Bool → Bool → (List UInt8) → (List Int) → Int → (List Int) → Int → Int → Option (((List Int) × (Bool × (Bool × ((List UInt8) × ((List Int) × (Int × Unit)))))) × Unit)
  | 0, _, _, _, _, _, _, _, _, _ => none
  | n + 1, t0, t1, t2, t8, t9, t10, t12, t13, t14 =>
    bif (Go.Iv.ilt t14 (len t12)) then
      Option.bind (L4_22 (n + 2) t0 t1 t2 t8 t9 t10 t12 t13 t14 (0 : Int)) fun y32 =>
      L4_19_68 n y32.1.1 y32.1.2.1 y32.1.2.2.1 y32.1.2.2.2.1 y32.1.2.2.2.2.1 y32.1.2.2.2.2.2.1 y32.1.2.2.2.2.2.2.1 y32.1.2.2.2.2.2.2.2.1 (Go.IntKind.wrap Go.IntKind.i64 (y32.1.2.2.2.2.2.2.2.2.1 + (1 : Int)))
    else
    some ((t0, (t1, (t2, (t8, (t9, (t10, ())))))), ())
noncomputable def L4_19_68_it : LoopIt := ⟨4, 19, none, L4_19_68_T, [(.exit 2, L4_19_68_Xexit2)], 1, fun n x => L4_19_68 n x.1.1 x.1.2.1 x.1.2.2.1 x.1.2.2.2.1 x.1.2.2.2.2.1 x.1.2.2.2.2.2.1 x.1.2.2.2.2.2.2.1 x.1.2.2.2.2.2.2.2.1 x.1.2.2.2.2.2.2.2.2.1⟩
theorem L4_19_68_Xexit2_ok : L4_19_68_Xexit2.ok Go.Proofs.Tryd.prog hint := by
  intro p hp
  cases hp
theorem L4_19_68_T_ok : L4_19_68_T.ok Go.Proofs.Tryd.prog hint := by
  intro p hp
  cases hp
theorem L4_19_68_ok : ∀ n, LoopOK Go.Proofs.Tryd.prog hint shT L4_19_68_it n :=
  LoopOK.of (hk := fun β => (Known.mk [utfPoints_it, bytes_it, points_it, form_it, fits_it, dr_it, drs_it, is_it, unit_it, bytesR_it, sameInts_it, pointsR_it, smallR_it, pointR_it, pairsR_it, unitsR_it, formR_it, isR_it, right_it, alive_it] [L4_22_70_it, L4_19_it, L4_22_72_it, L4_22_it, L15_3_it, L36_0_it, L34_0_71_it, L34_0_it, L11_2_it, L24_2_it, L37_2_it, L35_3_it, L16_3_it, L14_4_it, L10_10_it, L19_3_it, L31_23_it, L21_3_it, L20_3_it, L20_7_65_it, L20_7_it, L25_4_it]).hk β) (sh := shT) (OneLoop.of (by kernel_rfl)) L4_19_68_T_ok ⟨⟨L4_19_68_Xexit2_ok, Nat.le_refl _, Nat.le_refl _⟩, trivial⟩ (fun m => KnownOK.hook ((((((((((((((((((((((((((((((((((((((((((KnownOK.nil.fn alive_ok).fn right_ok).loop L25_4_ok L25_4_T_ok).fn isR_ok).fn formR_ok).loop L20_7_ok L20_7_T_ok).loop L20_7_65_ok L20_7_65_T_ok).loop L20_3_ok L20_3_T_ok).fn unitsR_ok).loop L21_3_ok L21_3_T_ok).fn pairsR_ok).loop L31_23_ok L31_23_T_ok).fn pointR_ok).loop L19_3_ok L19_3_T_ok).fn smallR_ok).loop L10_10_ok L10_10_T_ok).fn pointsR_ok).loop L14_4_ok L14_4_T_ok).fn sameInts_ok).loop L16_3_ok L16_3_T_ok).fn bytesR_ok).loop L35_3_ok L35_3_T_ok).fn unit_ok).fn is_ok).fn drs_ok).loop L37_2_ok L37_2_T_ok).fn dr_ok).loop L24_2_ok L24_2_T_ok).fn fits_ok).loop L11_2_ok L11_2_T_ok).fn form_ok).loop L34_0_ok L34_0_T_ok).loop L34_0_71_ok L34_0_71_T_ok).loop L36_0_ok L36_0_T_ok).fn points_ok).loop L15_3_ok L15_3_T_ok).fn bytes_ok).fn utfPoints_ok).loop L4_22_ok L4_22_T_ok).loop L4_22_72_ok L4_22_72_T_ok).loop L4_19_ok L4_19_T_ok).loop L4_22_70_ok L4_22_70_T_ok) m)
    (fun _ => by kernel_rfl) (fun m x => by kernel_rfl)

noncomputable def L4_22_73_Xexit4 : Tm := ⟨[(0, .one (.lst (.int .i64))), (1, .one (.bool)), (2, .one (.bool)), (8, .one (.all 73 5 .byte true)), (9, .one (.all 74 3 (.int .i64) false)), (10, .one (.int .i64)), (12, .one (.all 75 3 (.int .i64) false)), (13, .one (.int .i64)), (14, .one (.int .i64))], [], 73, 76, 3006⟩
noncomputable def L4_22_73_T : Tm := ⟨[(0, .one (.lst (.int .i64))), (1, .one (.bool)), (2, .one (.bool)), (8, .one (.all 73 5 .byte true)), (9, .one (.all 74 3 (.int .i64) false)), (10, .one (.int .i64)), (12, .one (.all 75 3 (.int .i64) false)), (13, .one (.int .i64)), (14, .one (.int .i64)), (15, .one (.int .i64))], [], 73, 76, 3006⟩
noncomputable def L4_22_73 : Nat → (List Int) → Bool → Bool → (List UInt8) → (List Int) → Int → (List Int) → Int → Int → Int → Option (((List Int) × (Bool × (Bool × ((List UInt8) × ((List Int) × (Int × ((List Int) × (Int × (Int × Unit))))))))) × Unit)
  | 0, _, _, _, _, _, _, _, _, _, _ => none
  | n + 1, t0, t1, t2, t8, t9, t10, t12, t13, t14, t15 =>
    bif (Go.Iv.ilt t15 t13) then
      bif t2 then
        bif ((Go.Iv.ile (0 : Int) t14) && (Go.Iv.ilt t14 (len t12))) then
        Option.bind (t12[(Int.toNat t14)]?) fun x49 =>
        bif (Go.Iv.ile (0 : Int) (Go.IntKind.wrap Go.IntKind.u64 (Go.IntKind.wrap Go.IntKind.i64 ((8 : Int) * (Go.IntKind.wrap Go.IntKind.i64 ((Go.IntKind.wrap Go.IntKind.i64 (t13 - (1 : Int))) - t15)))))) then
        bif (room (((List.length t8) + (List.length ((UInt8.ofNat (Int.toNat (Go.IntKind.wrap Go.IntKind.u8 (shrI Go.IntKind.i64 x49 (Int.toNat (Go.IntKind.wrap Go.IntKind.u64 (Go.IntKind.wrap Go.IntKind.i64 ((8 : Int) * (Go.IntKind.wrap Go.IntKind.i64 ((Go.IntKind.wrap Go.IntKind.i64 (t13 - (1 : Int))) - t15)))))))))) :: []))) * 2)) then
        L4_22_73 n t0 t1 t2 (t8 ++ ((UInt8.ofNat (Int.toNat (Go.IntKind.wrap Go.IntKind.u8 (shrI Go.IntKind.i64 x49 (Int.toNat (Go.IntKind.wrap Go.IntKind.u64 (Go.IntKind.wrap Go.IntKind.i64 ((8 : Int) * (Go.IntKind.wrap Go.IntKind.i64 ((Go.IntKind.wrap Go.IntKind.i64 (t13 - (1 : Int))) - t15)))))))))) :: [])) t9 t10 t12 t13 t14 (Go.IntKind.wrap Go.IntKind.i64 (t15 + (1 : Int)))
        else none
        else none
        else none
      else
      bif ((Go.Iv.ile (0 : Int) t14) && (Go.Iv.ilt t14 (len t12))) then
      Option.bind (t12[(Int.toNat t14)]?) fun x50 =>
      bif (Go.Iv.ile (0 : Int) (Go.IntKind.wrap Go.IntKind.u64 (Go.IntKind.wrap Go.IntKind.i64 ((8 : Int) * t15)))) then
      bif (room (((List.length t8) + (List.length ((UInt8.ofNat (Int.toNat (Go.IntKind.wrap Go.IntKind.u8 (shrI Go.IntKind.i64 x50 (Int.toNat (Go.IntKind.wrap Go.IntKind.u64 (Go.IntKind.wrap Go.IntKind.i64 ((8 : Int) * t15)))))))) :: []))) * 2)) then
      L4_22_73 n t0 t1 t2 (t8 ++ ((UInt8.ofNat (Int.toNat (Go.IntKind.wrap Go.IntKind.u8 (shrI Go.IntKind.i64 x50 (Int.toNat (Go.IntKind.wrap Go.IntKind.u64 (Go.IntKind.wrap Go.IntKind.i64 ((8 : Int) * t15)))))))) :: [])) t9 t10 t12 t13 t14 (Go.IntKind.wrap Go.IntKind.i64 (t15 + (1 : Int)))
      else none
      else none
      else none
    else
    some ((t0, (t1, (t2, (t8, (t9, (t10, (t12, (t13, (t14, ()))))))))), ())
noncomputable def L4_22_73_it : LoopIt := ⟨4, 22, none, L4_22_73_T, [(.exit 4, L4_22_73_Xexit4)], 0, fun n x => L4_22_73 n x.1.1 x.1.2.1 x.1.2.2.1 x.1.2.2.2.1 x.1.2.2.2.2.1 x.1.2.2.2.2.2.1 x.1.2.2.2.2.2.2.1 x.1.2.2.2.2.2.2.2.1 x.1.2.2.2.2.2.2.2.2.1 x.1.2.2.2.2.2.2.2.2.2.1⟩
theorem L4_22_73_Xexit4_ok : L4_22_73_Xexit4.ok Go.Proofs.Tryd.prog hint := by
  intro p hp
  cases hp
theorem L4_22_73_T_ok : L4_22_73_T.ok Go.Proofs.Tryd.prog hint := by
  intro p hp
  cases hp
theorem L4_22_73_ok : ∀ n, LoopOK Go.Proofs.Tryd.prog hint shT L4_22_73_it n :=
  LoopOK.of (hk := fun β => (Known.mk [utfPoints_it, bytes_it, points_it, form_it, fits_it, dr_it, drs_it, is_it, unit_it, bytesR_it, sameInts_it, pointsR_it, smallR_it, pointR_it, pairsR_it, unitsR_it, formR_it, isR_it, right_it, alive_it] [L4_19_68_it, L4_22_70_it, L4_19_it, L4_22_72_it, L4_22_it, L15_3_it, L36_0_it, L34_0_71_it, L34_0_it, L11_2_it, L24_2_it, L37_2_it, L35_3_it, L16_3_it, L14_4_it, L10_10_it, L19_3_it, L31_23_it, L21_3_it, L20_3_it, L20_7_65_it, L20_7_it, L25_4_it]).hk β) (sh := shT) (OneLoop.of (by kernel_rfl)) L4_22_73_T_ok ⟨⟨L4_22_73_Xexit4_ok, Nat.le_refl _, Nat.le_refl _⟩, trivial⟩ (fun m => KnownOK.hook (((((((((((((((((((((((((((((((((((((((((((KnownOK.nil.fn alive_ok).fn right_ok).loop L25_4_ok L25_4_T_ok).fn isR_ok).fn formR_ok).loop L20_7_ok L20_7_T_ok).loop L20_7_65_ok L20_7_65_T_ok).loop L20_3_ok L20_3_T_ok).fn unitsR_ok).loop L21_3_ok L21_3_T_ok).fn pairsR_ok).loop L31_23_ok L31_23_T_ok).fn pointR_ok).loop L19_3_ok L19_3_T_ok).fn smallR_ok).loop L10_10_ok L10_10_T_ok).fn pointsR_ok).loop L14_4_ok L14_4_T_ok).fn sameInts_ok).loop L16_3_ok L16_3_T_ok).fn bytesR_ok).loop L35_3_ok L35_3_T_ok).fn unit_ok).fn is_ok).fn drs_ok).loop L37_2_ok L37_2_T_ok).fn dr_ok).loop L24_2_ok L24_2_T_ok).fn fits_ok).loop L11_2_ok L11_2_T_ok).fn form_ok).loop L34_0_ok L34_0_T_ok).loop L34_0_71_ok L34_0_71_T_ok).loop L36_0_ok L36_0_T_ok).fn points_ok).loop L15_3_ok L15_3_T_ok).fn bytes_ok).fn utfPoints_ok).loop L4_22_ok L4_22_T_ok).loop L4_22_72_ok L4_22_72_T_ok).loop L4_19_ok L4_19_T_ok).loop L4_22_70_ok L4_22_70_T_ok).loop L4_19_68_ok L4_19_68_T_ok) m)
    (fun _ => by kernel_rfl) (fun m x => by kernel_rfl)

noncomputable def L4_19_70_Xexit2 : Tm := ⟨[(0, .one (.lst (.int .i64))), (1, .one (.bool)), (2, .one (.bool)), (8, .one (.all 70 5 .byte true)), (9, .one (.all 71 3 (.int .i64) false)), (10, .one (.int .i64))], [], 70, 72, 2005⟩
noncomputable def L4_19_70_T : Tm := ⟨[(0, .one (.lst (.int .i64))), (1, .one (.bool)), (2, .one (.bool)), (8, .one (.all 70 5 .byte true)), (9, .one (.all 71 3 (.int .i64) false)), (10, .one (.int .i64)), (12, .one (.all 72 3 (.int .i64) false)), (13, .one (.int .i64)), (14, .one (.int .i64))], [], 70, 73, 2005⟩
noncomputable def L4_19_70 : Nat → (List Int) → Bool → Bool → (List UInt8) → (List Int) → Int → (List Int) → Int → Int → Option (((List Int) × (Bool × (Bool × ((List UInt8) × ((List Int) × (Int × Unit)))))) × Unit)
  | 0, _, _, _, _, _, _, _, _, _ => none
  | n + 1, t0, t1, t2, t8, t9, t10, t12, t13, t14 =>
    bif (Go.Iv.ilt t14 (len t12)) then
      Option.bind (L4_22_73 (n + 2) t0 t1 t2 t8 t9 t10 t12 t13 t14 (0 : Int)) fun y53 =>
      L4_19_70 n y53.1.1 y53.1.2.1 y53.1.2.2.1 y53.1.2.2.2.1 y53.1.2.2.2.2.1 y53.1.2.2.2.2.2.1 y53.1.2.2.2.2.2.2.1 y53.1.2.2.2.2.2.2.2.1 (Go.IntKind.wrap Go.IntKind.i64 (y53.1.2.2.2.2.2.2.2.2.1 + (1 : Int)))
    else
    some ((t0, (t1, (t2, (t8, (t9, (t10, ())))))), ())
noncomputable def L4_19_70_it : LoopIt := ⟨4, 19, none, L4_19_70_T, [(.exit 2, L4_19_70_Xexit2)], 1, fun n x => L4_19_70 n x.1.1 x.1.2.1 x.1.2.2.1 x.1.2.2.2.1 x.1.2.2.2.2.1 x.1.2.2.2.2.2.1 x.1.2.2.2.2.2.2.1 x.1.2.2.2.2.2.2.2.1 x.1.2.2.2.2.2.2.2.2.1⟩
theorem L4_19_70_Xexit2_ok : L4_19_70_Xexit2.ok Go.Proofs.Tryd.prog hint := by
  intro p hp
  cases hp
theorem L4_19_70_T_ok : L4_19_70_T.ok Go.Proofs.Tryd.prog hint := by
  intro p hp
  cases hp
theorem L4_19_70_ok : ∀ n, LoopOK Go.Proofs.Tryd.prog hint shT L4_19_70_it n :=
  LoopOK.of (hk := fun β => (Known.mk [utfPoints_it, bytes_it, points_it, form_it, fits_it, dr_it, drs_it, is_it, unit_it, bytesR_it, sameInts_it, pointsR_it, smallR_it, pointR_it, pairsR_it, unitsR_it, formR_it, isR_it, right_it, alive_it] [L4_22_73_it, L4_19_68_it, L4_22_70_it, L4_19_it, L4_22_72_it, L4_22_it, L15_3_it, L36_0_it, L34_0_71_it, L34_0_it, L11_2_it, L24_2_it, L37_2_it, L35_3_it, L16_3_it, L14_4_it, L10_10_it, L19_3_it, L31_23_it, L21_3_it, L20_3_it, L20_7_65_it, L20_7_it, L25_4_it]).hk β) (sh := shT) (OneLoop.of (by kernel_rfl)) L4_19_70_T_ok ⟨⟨L4_19_70_Xexit2_ok, Nat.le_refl _, Nat.le_refl _⟩, trivial⟩ (fun m => KnownOK.hook ((((((((((((((((((((((((((((((((((((((((((((KnownOK.nil.fn alive_ok).fn right_ok).loop L25_4_ok L25_4_T_ok).fn isR_ok).fn formR_ok).loop L20_7_ok L20_7_T_ok).loop L20_7_65_ok L20_7_65_T_ok).loop L20_3_ok L20_3_T_ok).fn unitsR_ok).loop L21_3_ok L21_3_T_ok).fn pairsR_ok).loop L31_23_ok L31_23_T_ok).fn pointR_ok).loop L19_3_ok L19_3_T_ok).fn smallR_ok).loop L10_10_ok L10_10_T_ok).fn pointsR_ok).loop L14_4_ok L14_4_T_ok).fn sameInts_ok).loop L16_3_ok L16_3_T_ok).fn bytesR_ok).loop L35_3_ok L35_3_T_ok).fn unit_ok).fn is_ok).fn drs_ok).loop L37_2_ok L37_2_T_ok).fn dr_ok).loop L24_2_ok L24_2_T_ok).fn fits_ok).loop L11_2_ok L11_2_T_ok).fn form_ok).loop L34_0_ok L34_0_T_ok).loop L34_0_71_ok L34_0_71_T_ok).loop L36_0_ok L36_0_T_ok).fn points_ok).loop L15_3_ok L15_3_T_ok).fn bytes_ok).fn utfPoints_ok).loop L4_22_ok L4_22_T_ok).loop L4_22_72_ok L4_22_72_T_ok).loop L4_19_ok L4_19_T_ok).loop L4_22_70_ok L4_22_70_T_ok).loop L4_19_68_ok L4_19_68_T_ok).loop L4_22_73_ok L4_22_73_T_ok) m)
    (fun _ => by kernel_rfl) (fun m x => by kernel_rfl)

noncomputable def L4_7_Xexit0 : Tm := ⟨[(0, .one (.lst (.int .i64))), (8, .one (.all 66 5 .byte true))], [], 66, 67, 1002⟩
noncomputable def L4_7_Xret : Tm := ⟨[(6, .one (.bool))], [], 66, 66, 1002⟩
noncomputable def L4_7_T : Tm := ⟨[(0, .one (.lst (.int .i64))), (1, .one (.bool)), (2, .one (.bool)), (8, .one (.all 66 5 .byte true)), (9, .one (.all 67 3 (.int .i64) false)), (10, .one (.int .i64))], [], 66, 68, 1002⟩
noncomputable def L4_7 : Nat → (List Int) → Bool → Bool → (List UInt8) → (List Int) → Int → Option ((((List Int) × ((List UInt8) × Unit)) × Unit) ⊕ ((Bool × Unit) × Unit))
  | 0, _, _, _, _, _, _ => none
  | n + 1, t0, t1, t2, t8, t9, t10 =>
    bif (Go.Iv.ilt t10 (len t9)) then
      bif ((Go.Iv.ile (0 : Int) t10) && (Go.Iv.ilt t10 (len t9))) then
      Option.bind (t9[(Int.toNat t10)]?) fun x79 =>
      bif (Go.Iv.ilt x79 (0 : Int)) then
        some (.inr ((Bool.true, ()), ()))
      else
      bif (Go.Iv.ilt (1114111 : Int) x79) then
        some (.inr ((Bool.true, ()), ()))
      else
      bif (Go.Iv.ile (55296 : Int) x79) then
        bif (Go.Iv.ile x79 (57343 : Int)) then
          some (.inr ((Bool.true, ()), ()))
        else
        bif (x79 == (0 : Int)) then
          bif (t10 == (1 : Int)) then
            some (.inr ((Bool.true, ()), ()))
          else
          bif (!t1) then
            bif (Go.Iv.ilt (65535 : Int) x79) then
              Option.bind (L4_19_70 (n + 1) t0 t1 t2 t8 t9 t10 ((Go.IntKind.wrap Go.IntKind.i64 ((55296 : Int) + (shrI Go.IntKind.i64 (Go.IntKind.wrap Go.IntKind.i64 (x79 - (65536 : Int))) 10))) :: ((Go.IntKind.wrap Go.IntKind.i64 ((56320 : Int) + (andI Go.IntKind.i64 (Go.IntKind.wrap Go.IntKind.i64 (x79 - (65536 : Int))) (1023 : Int)))) :: [])) (2 : Int) (0 : Int)) fun y80 =>
              L4_7 n y80.1.1 y80.1.2.1 y80.1.2.2.1 y80.1.2.2.2.1 y80.1.2.2.2.2.1 (Go.IntKind.wrap Go.IntKind.i64 (y80.1.2.2.2.2.2.1 + (1 : Int)))
            else
            Option.bind (L4_19 (n + 1) t0 t1 t2 t8 t9 t10 (x79 :: []) (2 : Int) (0 : Int)) fun y81 =>
            L4_7 n y81.1.1 y81.1.2.1 y81.1.2.2.1 y81.1.2.2.2.1 y81.1.2.2.2.2.1 (Go.IntKind.wrap Go.IntKind.i64 (y81.1.2.2.2.2.2.1 + (1 : Int)))
          else
          Option.bind (L4_19 (n + 1) t0 t1 t2 t8 t9 t10 (x79 :: []) (4 : Int) (0 : Int)) fun y82 =>
          L4_7 n y82.1.1 y82.1.2.1 y82.1.2.2.1 y82.1.2.2.2.1 y82.1.2.2.2.2.1 (Go.IntKind.wrap Go.IntKind.i64 (y82.1.2.2.2.2.2.1 + (1 : Int)))
        else
        bif (!t1) then
          bif (Go.Iv.ilt (65535 : Int) x79) then
            Option.bind (L4_19_70 (n + 1) t0 t1 t2 t8 t9 t10 ((Go.IntKind.wrap Go.IntKind.i64 ((55296 : Int) + (shrI Go.IntKind.i64 (Go.IntKind.wrap Go.IntKind.i64 (x79 - (65536 : Int))) 10))) :: ((Go.IntKind.wrap Go.IntKind.i64 ((56320 : Int) + (andI Go.IntKind.i64 (Go.IntKind.wrap Go.IntKind.i64 (x79 - (65536 : Int))) (1023 : Int)))) :: [])) (2 : Int) (0 : Int)) fun y83 =>
            L4_7 n y83.1.1 y83.1.2.1 y83.1.2.2.1 y83.1.2.2.2.1 y83.1.2.2.2.2.1 (Go.IntKind.wrap Go.IntKind.i64 (y83.1.2.2.2.2.2.1 + (1 : Int)))
          else
          Option.bind (L4_19 (n + 1) t0 t1 t2 t8 t9 t10 (x79 :: []) (2 : Int) (0 : Int)) fun y84 =>
          L4_7 n y84.1.1 y84.1.2.1 y84.1.2.2.1 y84.1.2.2.2.1 y84.1.2.2.2.2.1 (Go.IntKind.wrap Go.IntKind.i64 (y84.1.2.2.2.2.2.1 + (1 : Int)))
        else
        Option.bind (L4_19 (n + 1) t0 t1 t2 t8 t9 t10 (x79 :: []) (4 : Int) (0 : Int)) fun y85 =>
        L4_7 n y85.1.1 y85.1.2.1 y85.1.2.2.1 y85.1.2.2.2.1 y85.1.2.2.2.2.1 (Go.IntKind.wrap Go.IntKind.i64 (y85.1.2.2.2.2.2.1 + (1 : Int)))
      else
      bif (x79 == (0 : Int)) then
        bif (t10 == (1 : Int)) then
          some (.inr ((Bool.true, ()), ()))
        else
        bif (!t1) then
          bif (Go.Iv.ilt (65535 : Int) x79) then
            Option.bind (L4_19_70 (n + 1) t0 t1 t2 t8 t9 t10 ((Go.IntKind.wrap Go.IntKind.i64 ((55296 : Int) + (shrI Go.IntKind.i64 (Go.IntKind.wrap Go.IntKind.i64 (x79 - (65536 : Int))) 10))) :: ((Go.IntKind.wrap Go.IntKind.i64 ((56320 : Int) + (andI Go.IntKind.i64 (Go.IntKind.wrap Go.IntKind.i64 (x79 - (65536 : Int))) (1023 : Int)))) :: [])) (2 : Int) (0 : Int)) fun y86 =>
            L4_7 n y86.1.1 y86.1.2.1 y86.1.2.2.1 y86.1.2.2.2.1 y86.1.2.2.2.2.1 (Go.IntKind.wrap Go.IntKind.i64 (y86.1.2.2.2.2.2.1 + (1 : Int)))
          else
          Option.bind (L4_19 (n + 1) t0 t1 t2 t8 t9 t10 (x79 :: []) (2 : Int) (0 : Int)) fun y87 =>
          L4_7 n y87.1.1 y87.1.2.1 y87.1.2.2.1 y87.1.2.2.2.1 y87.1.2.2.2.2.1 (Go.IntKind.wrap Go.IntKind.i64 (y87.1.2.2.2.2.2.1 + (1 : Int)))
        else
        Option.bind (L4_19 (n + 1) t0 t1 t2 t8 t9 t10 (x79 :: []) (4 : Int) (0 : Int)) fun y88 =>
        L4_7 n y88.1.1 y88.1.2.1 y88.1.2.2.1 y88.1.2.2.2.1 y88.1.2.2.2.2.1 (Go.IntKind.wrap Go.IntKind.i64 (y88.1.2.2.2.2.2.1 + (1 : Int)))
      else
      bif (!t1) then
        bif (Go.Iv.ilt (65535 : Int) x79) then
          Option.bind (L4_19_70 (n + 1) t0 t1 t2 t8 t9 t10 ((Go.IntKind.wrap Go.IntKind.i64 ((55296 : Int) + (shrI Go.IntKind.i64 (Go.IntKind.wrap Go.IntKind.i64 (x79 - (65536 : Int))) 10))) :: ((Go.IntKind.wrap Go.IntKind.i64 ((56320 : Int) + (andI Go.IntKind.i64 (Go.IntKind.wrap Go.IntKind.i64 (x79 - (65536 : Int))) (1023 : Int)))) :: [])) (2 : Int) (0 : Int)) fun y89 =>
          L4_7 n y89.1.1 y89.1.2.1 y89.1.2.2.1 y89.1.2.2.2.1 y89.1.2.2.2.2.1 (Go.IntKind.wrap Go.IntKind.i64 (y89.1.2.2.2.2.2.1 + (1 : Int)))
        else
        Option.bind (L4_19 (n + 1) t0 t1 t2 t8 t9 t10 (x79 :: []) (2 : Int) (0 : Int)) fun y90 =>
        L4_7 n y90.1.1 y90.1.2.1 y90.1.2.2.1 y90.1.2.2.2.1 y90.1.2.2.2.2.1 (Go.IntKind.wrap Go.IntKind.i64 (y90.1.2.2.2.2.2.1 + (1 : Int)))
      else
      Option.bind (L4_19 (n + 1) t0 t1 t2 t8 t9 t10 (x79 :: []) (4 : Int) (0 : Int)) fun y91 =>
      L4_7 n y91.1.1 y91.1.2.1 y91.1.2.2.1 y91.1.2.2.2.1 y91.1.2.2.2.2.1 (Go.IntKind.wrap Go.IntKind.i64 (y91.1.2.2.2.2.2.1 + (1 : Int)))
      else none
    else
    some (.inl ((t0, (t8, ())), ()))
noncomputable def L4_7_it : LoopIt := ⟨4, 7, none, L4_7_T, [(.exit 0, L4_7_Xexit0), (.ret, L4_7_Xret)], 1, fun n x => L4_7 n x.1.1 x.1.2.1 x.1.2.2.1 x.1.2.2.2.1 x.1.2.2.2.2.1 x.1.2.2.2.2.2.1⟩
theorem L4_7_Xexit0_ok : L4_7_Xexit0.ok Go.Proofs.Tryd.prog hint := by
  intro p hp
  cases hp
theorem L4_7_Xret_ok : L4_7_Xret.ok Go.Proofs.Tryd.prog hint := by
  intro p hp
  cases hp
theorem L4_7_T_ok : L4_7_T.ok Go.Proofs.Tryd.prog hint := by
  intro p hp
  cases hp
theorem L4_7_ok : ∀ n, LoopOK Go.Proofs.Tryd.prog hint shT L4_7_it n :=
  LoopOK.of (hk := fun β => (Known.mk [utfPoints_it, bytes_it, points_it, form_it, fits_it, dr_it, drs_it, is_it, unit_it, bytesR_it, sameInts_it, pointsR_it, smallR_it, pointR_it, pairsR_it, unitsR_it, formR_it, isR_it, right_it, alive_it] [L4_19_70_it, L4_22_73_it, L4_19_68_it, L4_22_70_it, L4_19_it, L4_22_72_it, L4_22_it, L15_3_it, L36_0_it, L34_0_71_it, L34_0_it, L11_2_it, L24_2_it, L37_2_it, L35_3_it, L16_3_it, L14_4_it, L10_10_it, L19_3_it, L31_23_it, L21_3_it, L20_3_it, L20_7_65_it, L20_7_it, L25_4_it]).hk β) (sh := shT) (OneLoop.of (by kernel_rfl)) L4_7_T_ok ⟨⟨L4_7_Xexit0_ok, Nat.le_refl _, Nat.le_refl _⟩, ⟨L4_7_Xret_ok, Nat.le_refl _, Nat.le_refl _⟩, trivial⟩ (fun m => KnownOK.hook (((((((((((((((((((((((((((((((((((((((((((((KnownOK.nil.fn alive_ok).fn right_ok).loop L25_4_ok L25_4_T_ok).fn isR_ok).fn formR_ok).loop L20_7_ok L20_7_T_ok).loop L20_7_65_ok L20_7_65_T_ok).loop L20_3_ok L20_3_T_ok).fn unitsR_ok).loop L21_3_ok L21_3_T_ok).fn pairsR_ok).loop L31_23_ok L31_23_T_ok).fn pointR_ok).loop L19_3_ok L19_3_T_ok).fn smallR_ok).loop L10_10_ok L10_10_T_ok).fn pointsR_ok).loop L14_4_ok L14_4_T_ok).fn sameInts_ok).loop L16_3_ok L16_3_T_ok).fn bytesR_ok).loop L35_3_ok L35_3_T_ok).fn unit_ok).fn is_ok).fn drs_ok).loop L37_2_ok L37_2_T_ok).fn dr_ok).loop L24_2_ok L24_2_T_ok).fn fits_ok).loop L11_2_ok L11_2_T_ok).fn form_ok).loop L34_0_ok L34_0_T_ok).loop L34_0_71_ok L34_0_71_T_ok).loop L36_0_ok L36_0_T_ok).fn points_ok).loop L15_3_ok L15_3_T_ok).fn bytes_ok).fn utfPoints_ok).loop L4_22_ok L4_22_T_ok).loop L4_22_72_ok L4_22_72_T_ok).loop L4_19_ok L4_19_T_ok).loop L4_22_70_ok L4_22_70_T_ok).loop L4_19_68_ok L4_19_68_T_ok).loop L4_22_73_ok L4_22_73_T_ok).loop L4_19_70_ok L4_19_70_T_ok) m)
    (fun _ => by kernel_rfl) (fun m x => by kernel_rfl)

noncomputable def utfWide (n : Nat) (l : List Int) (four : Bool) (great : Bool) : Option (Bool × Unit) :=
  Option.bind (alive n ) fun y0 =>
  bif (!y0.1) then
    some (y0.1, ())
  else
  bif (Go.Iv.ilt (300 : Int) (len l)) then
    some (y0.1, ())
  else
  bif (room (((List.length ((65279 : Int) :: [])) + (List.length l)) * 9)) then
  Option.bind (L4_7 (n + 11) l four great [] (((65279 : Int) :: []) ++ l) (0 : Int)) fun y92 =>
  match y92 with
    | .inl y93 =>
      Option.bind (points (n + 6) y93.1.2.1) fun y95 =>
      bif (y95.2.1 == (0 : Int)) then
        Option.bind (sameInts (n + 10) y95.1 y93.1.1) fun y96 =>
        some (y96.1, ())
      else
      some (Bool.false, ())
    | .inr y94 =>
      some (y94.1.1, ())
  else none
noncomputable def utfWide_it : FnIt := ⟨4, [(false, (.slc (.int .i64))), (false, .bool), (false, .bool)], [(false, .bool)], 12, fun n x => utfWide n x.1 x.2.1 x.2.2.1⟩
theorem utfWide_ok (n : Nat) : FnOK Go.Proofs.Tryd.prog hint shT utfWide_it n :=
  FnOK.of (hk := fun β => (Known.mk [utfPoints_it, bytes_it, points_it, form_it, fits_it, dr_it, drs_it, is_it, unit_it, bytesR_it, sameInts_it, pointsR_it, smallR_it, pointR_it, pairsR_it, unitsR_it, formR_it, isR_it, right_it, alive_it] [L4_7_it, L4_19_70_it, L4_22_73_it, L4_19_68_it, L4_22_70_it, L4_19_it, L4_22_72_it, L4_22_it, L15_3_it, L36_0_it, L34_0_71_it, L34_0_it, L11_2_it, L24_2_it, L37_2_it, L35_3_it, L16_3_it, L14_4_it, L10_10_it, L19_3_it, L31_23_it, L21_3_it, L20_3_it, L20_7_65_it, L20_7_it, L25_4_it]).hk β) (sh := shT) (fun m _ => KnownOK.hook ((((((((((((((((((((((((((((((((((((((((((((((KnownOK.nil.fn alive_ok).fn right_ok).loop L25_4_ok L25_4_T_ok).fn isR_ok).fn formR_ok).loop L20_7_ok L20_7_T_ok).loop L20_7_65_ok L20_7_65_T_ok).loop L20_3_ok L20_3_T_ok).fn unitsR_ok).loop L21_3_ok L21_3_T_ok).fn pairsR_ok).loop L31_23_ok L31_23_T_ok).fn pointR_ok).loop L19_3_ok L19_3_T_ok).fn smallR_ok).loop L10_10_ok L10_10_T_ok).fn pointsR_ok).loop L14_4_ok L14_4_T_ok).fn sameInts_ok).loop L16_3_ok L16_3_T_ok).fn bytesR_ok).loop L35_3_ok L35_3_T_ok).fn unit_ok).fn is_ok).fn drs_ok).loop L37_2_ok L37_2_T_ok).fn dr_ok).loop L24_2_ok L24_2_T_ok).fn fits_ok).loop L11_2_ok L11_2_T_ok).fn form_ok).loop L34_0_ok L34_0_T_ok).loop L34_0_71_ok L34_0_71_T_ok).loop L36_0_ok L36_0_T_ok).fn points_ok).loop L15_3_ok L15_3_T_ok).fn bytes_ok).fn utfPoints_ok).loop L4_22_ok L4_22_T_ok).loop L4_22_72_ok L4_22_72_T_ok).loop L4_19_ok L4_19_T_ok).loop L4_22_70_ok L4_22_70_T_ok).loop L4_19_68_ok L4_19_68_T_ok).loop L4_22_73_ok L4_22_73_T_ok).loop L4_19_70_ok L4_19_70_T_ok).loop L4_7_ok L4_7_T_ok) m) (fun x => by kernel_rfl)

noncomputable def L5_6_Xexit0 : Tm := ⟨[(0, .one (.int .i64)), (4, .one (.all 65 5 .byte false))], [], 65, 66, 1001⟩
noncomputable def L5_6_T : Tm := ⟨[(0, .one (.int .i64)), (4, .one (.all 65 5 .byte false)), (5, .one (.int .i64))], [], 65, 66, 1001⟩
noncomputable def L5_6 : Nat → Int → (List UInt8) → Int → Option ((Int × ((List UInt8) × Unit)) × Unit)
  | 0, _, _, _ => none
  | n + 1, t0, t4, t5 =>
    bif (Go.Iv.ilt t5 (len t4)) then
      bif ((Go.Iv.ile (0 : Int) t5) && (Go.Iv.ilt t5 (len t4))) then
      Option.bind (t4[(Int.toNat t5)]?) fun _ =>
      L5_6 n t0 (List.set t4 (Int.toNat t5) (120 : UInt8)) (Go.IntKind.wrap Go.IntKind.i64 (t5 + (1 : Int)))
      else none
    else
    some ((t0, (t4, ())), ())
noncomputable def L5_6_it : LoopIt := ⟨5, 6, none, L5_6_T, [(.exit 0, L5_6_Xexit0)], 0, fun n x => L5_6 n x.1.1 x.1.2.1 x.1.2.2.1⟩
theorem L5_6_Xexit0_ok : L5_6_Xexit0.ok Go.Proofs.Tryd.prog hint := by
  intro p hp
  cases hp
theorem L5_6_T_ok : L5_6_T.ok Go.Proofs.Tryd.prog hint := by
  intro p hp
  cases hp
theorem L5_6_ok : ∀ n, LoopOK Go.Proofs.Tryd.prog hint shT L5_6_it n :=
  LoopOK.of (hk := fun β => (Known.mk [utfWide_it, utfPoints_it, bytes_it, points_it, form_it, fits_it, dr_it, drs_it, is_it, unit_it, bytesR_it, sameInts_it, pointsR_it, smallR_it, pointR_it, pairsR_it, unitsR_it, formR_it, isR_it, right_it, alive_it] [L4_7_it, L4_19_70_it, L4_22_73_it, L4_19_68_it, L4_22_70_it, L4_19_it, L4_22_72_it, L4_22_it, L15_3_it, L36_0_it, L34_0_71_it, L34_0_it, L11_2_it, L24_2_it, L37_2_it, L35_3_it, L16_3_it, L14_4_it, L10_10_it, L19_3_it, L31_23_it, L21_3_it, L20_3_it, L20_7_65_it, L20_7_it, L25_4_it]).hk β) (sh := shT) (OneLoop.of (by kernel_rfl)) L5_6_T_ok ⟨⟨L5_6_Xexit0_ok, Nat.le_refl _, Nat.le_refl _⟩, trivial⟩ (fun m => KnownOK.hook (((((((((((((((((((((((((((((((((((((((((((((((KnownOK.nil.fn alive_ok).fn right_ok).loop L25_4_ok L25_4_T_ok).fn isR_ok).fn formR_ok).loop L20_7_ok L20_7_T_ok).loop L20_7_65_ok L20_7_65_T_ok).loop L20_3_ok L20_3_T_ok).fn unitsR_ok).loop L21_3_ok L21_3_T_ok).fn pairsR_ok).loop L31_23_ok L31_23_T_ok).fn pointR_ok).loop L19_3_ok L19_3_T_ok).fn smallR_ok).loop L10_10_ok L10_10_T_ok).fn pointsR_ok).loop L14_4_ok L14_4_T_ok).fn sameInts_ok).loop L16_3_ok L16_3_T_ok).fn bytesR_ok).loop L35_3_ok L35_3_T_ok).fn unit_ok).fn is_ok).fn drs_ok).loop L37_2_ok L37_2_T_ok).fn dr_ok).loop L24_2_ok L24_2_T_ok).fn fits_ok).loop L11_2_ok L11_2_T_ok).fn form_ok).loop L34_0_ok L34_0_T_ok).loop L34_0_71_ok L34_0_71_T_ok).loop L36_0_ok L36_0_T_ok).fn points_ok).loop L15_3_ok L15_3_T_ok).fn bytes_ok).fn utfPoints_ok).loop L4_22_ok L4_22_T_ok).loop L4_22_72_ok L4_22_72_T_ok).loop L4_19_ok L4_19_T_ok).loop L4_22_70_ok L4_22_70_T_ok).loop L4_19_68_ok L4_19_68_T_ok).loop L4_22_73_ok L4_22_73_T_ok).loop L4_19_70_ok L4_19_70_T_ok).loop L4_7_ok L4_7_T_ok).fn utfWide_ok) m)
    (fun _ => by kernel_rfl) (fun m x => by kernel_rfl)

noncomputable def utfLong (n : Nat) (more : Int) : Option (Bool × Unit) :=
  Option.bind (alive n ) fun y0 =>
  bif (!y0.1) then
    some (y0.1, ())
  else
  bif (Go.Iv.ilt more (-(2 : Int))) then
    some (y0.1, ())
  else
  bif (Go.Iv.ilt (2 : Int) more) then
    some (y0.1, ())
  else
  bif (((Go.Iv.ile (0 : Int) (Go.IntKind.wrap Go.IntKind.i64 ((1048576 : Int) + more))) && (Go.Iv.ile (Go.IntKind.wrap Go.IntKind.i64 ((1048576 : Int) + more)) (Go.IntKind.wrap Go.IntKind.i64 ((1048576 : Int) + more)))) && (Go.Iv.ile ((Go.IntKind.wrap Go.IntKind.i64 ((1048576 : Int) + more)) * (2 : Int)) (1099511627776 : Int))) then
  Option.bind (L5_6 (n + 12) more (List.replicate (Int.toNat (Go.IntKind.wrap Go.IntKind.i64 ((1048576 : Int) + more))) (0 : UInt8)) (0 : Int)) fun y4 =>
  Option.bind (points (n + 6) y4.1.2.1) fun y5 =>
  bif (Go.Iv.ilt (0 : Int) y4.1.1) then
    bif (y5.2.1 == (3 : Int)) then
      some (((len y5.1) == (0 : Int)), ())
    else
    some (Bool.false, ())
  else
  bif (y5.2.1 == (0 : Int)) then
    some (((len y5.1) == (len y4.1.2.1)), ())
  else
  some (Bool.false, ())
  else none
noncomputable def utfLong_it : FnIt := ⟨5, [(false, (.int .i64))], [(false, .bool)], 12, fun n x => utfLong n x.1⟩
theorem utfLong_ok (n : Nat) : FnOK Go.Proofs.Tryd.prog hint shT utfLong_it n :=
  FnOK.of (hk := fun β => (Known.mk [utfWide_it, utfPoints_it, bytes_it, points_it, form_it, fits_it, dr_it, drs_it, is_it, unit_it, bytesR_it, sameInts_it, pointsR_it, smallR_it, pointR_it, pairsR_it, unitsR_it, formR_it, isR_it, right_it, alive_it] [L5_6_it, L4_7_it, L4_19_70_it, L4_22_73_it, L4_19_68_it, L4_22_70_it, L4_19_it, L4_22_72_it, L4_22_it, L15_3_it, L36_0_it, L34_0_71_it, L34_0_it, L11_2_it, L24_2_it, L37_2_it, L35_3_it, L16_3_it, L14_4_it, L10_10_it, L19_3_it, L31_23_it, L21_3_it, L20_3_it, L20_7_65_it, L20_7_it, L25_4_it]).hk β) (sh := shT) (fun m _ => KnownOK.hook ((((((((((((((((((((((((((((((((((((((((((((((((KnownOK.nil.fn alive_ok).fn right_ok).loop L25_4_ok L25_4_T_ok).fn isR_ok).fn formR_ok).loop L20_7_ok L20_7_T_ok).loop L20_7_65_ok L20_7_65_T_ok).loop L20_3_ok L20_3_T_ok).fn unitsR_ok).loop L21_3_ok L21_3_T_ok).fn pairsR_ok).loop L31_23_ok L31_23_T_ok).fn pointR_ok).loop L19_3_ok L19_3_T_ok).fn smallR_ok).loop L10_10_ok L10_10_T_ok).fn pointsR_ok).loop L14_4_ok L14_4_T_ok).fn sameInts_ok).loop L16_3_ok L16_3_T_ok).fn bytesR_ok).loop L35_3_ok L35_3_T_ok).fn unit_ok).fn is_ok).fn drs_ok).loop L37_2_ok L37_2_T_ok).fn dr_ok).loop L24_2_ok L24_2_T_ok).fn fits_ok).loop L11_2_ok L11_2_T_ok).fn form_ok).loop L34_0_ok L34_0_T_ok).loop L34_0_71_ok L34_0_71_T_ok).loop L36_0_ok L36_0_T_ok).fn points_ok).loop L15_3_ok L15_3_T_ok).fn bytes_ok).fn utfPoints_ok).loop L4_22_ok L4_22_T_ok).loop L4_22_72_ok L4_22_72_T_ok).loop L4_19_ok L4_19_T_ok).loop L4_22_70_ok L4_22_70_T_ok).loop L4_19_68_ok L4_19_68_T_ok).loop L4_22_73_ok L4_22_73_T_ok).loop L4_19_70_ok L4_19_70_T_ok).loop L4_7_ok L4_7_T_ok).fn utfWide_ok).loop L5_6_ok L5_6_T_ok) m) (fun x => by kernel_rfl)

noncomputable def L7_11_Xexit0 : Tm := ⟨[], [], 66, 66, 1003⟩
noncomputable def L7_11_Xret : Tm := ⟨[(2, .one (.bool))], [], 66, 66, 1003⟩
noncomputable def L7_11_T : Tm := ⟨[(0, .one (.lst (.int .i64))), (5, .one (.lst (.int .i64))), (7, .one (.int .i64))], [], 66, 66, 1003⟩
noncomputable def L7_11 : Nat → (List Int) → (List Int) → Int → Option ((Unit × Unit) ⊕ ((Bool × Unit) × Unit))
  | 0, _, _, _ => none
  | n + 1, t0, t5, t7 =>
    bif (Go.Iv.ilt t7 (len t0)) then
      bif (Go.Iv.ile (0 : Int) t7) then
      Option.bind (t0[(Int.toNat t7)]?) fun x16 =>
      bif (Go.Iv.ilt x16 (0 : Int)) then
        bif (Go.Iv.ile (0 : Int) t7) then
        Option.bind (t5[(Int.toNat t7)]?) fun x17 =>
        bif (x17 != (65533 : Int)) then
          some (.inr ((Bool.false, ()), ()))
        else
        L7_11 n t0 t5 (Go.IntKind.wrap Go.IntKind.i64 (t7 + (1 : Int)))
        else none
      else
      bif (Go.Iv.ilt (1114111 : Int) x16) then
        bif (Go.Iv.ile (0 : Int) t7) then
        Option.bind (t5[(Int.toNat t7)]?) fun x18 =>
        bif (x18 != (65533 : Int)) then
          some (.inr ((Bool.false, ()), ()))
        else
        L7_11 n t0 t5 (Go.IntKind.wrap Go.IntKind.i64 (t7 + (1 : Int)))
        else none
      else
      bif (Go.Iv.ile (55296 : Int) x16) then
        bif (Go.Iv.ile x16 (57343 : Int)) then
          bif (Go.Iv.ile (0 : Int) t7) then
          Option.bind (t5[(Int.toNat t7)]?) fun x19 =>
          bif (x19 != (65533 : Int)) then
            some (.inr ((Bool.false, ()), ()))
          else
          L7_11 n t0 t5 (Go.IntKind.wrap Go.IntKind.i64 (t7 + (1 : Int)))
          else none
        else
        bif (Go.Iv.ile (0 : Int) t7) then
        Option.bind (t5[(Int.toNat t7)]?) fun x20 =>
        bif (x20 != x16) then
          some (.inr ((Bool.false, ()), ()))
        else
        L7_11 n t0 t5 (Go.IntKind.wrap Go.IntKind.i64 (t7 + (1 : Int)))
        else none
      else
      bif (Go.Iv.ile (0 : Int) t7) then
      Option.bind (t5[(Int.toNat t7)]?) fun x21 =>
      bif (x21 != x16) then
        some (.inr ((Bool.false, ()), ()))
      else
      L7_11 n t0 t5 (Go.IntKind.wrap Go.IntKind.i64 (t7 + (1 : Int)))
      else none
      else none
    else
    some (.inl ((), ()))
noncomputable def L7_11_it : LoopIt := ⟨7, 11, none, L7_11_T, [(.exit 0, L7_11_Xexit0), (.ret, L7_11_Xret)], 0, fun n x => L7_11 n x.1.1 x.1.2.1 x.1.2.2.1⟩
theorem L7_11_Xexit0_ok : L7_11_Xexit0.ok Go.Proofs.Tryd.prog hint := by
  intro p hp
  cases hp
theorem L7_11_Xret_ok : L7_11_Xret.ok Go.Proofs.Tryd.prog hint := by
  intro p hp
  cases hp
theorem L7_11_T_ok : L7_11_T.ok Go.Proofs.Tryd.prog hint := by
  intro p hp
  cases hp
theorem L7_11_ok : ∀ n, LoopOK Go.Proofs.Tryd.prog hint shT L7_11_it n :=
  LoopOK.of (hk := fun β => (Known.mk [utfLong_it, utfWide_it, utfPoints_it, bytes_it, points_it, form_it, fits_it, dr_it, drs_it, is_it, unit_it, bytesR_it, sameInts_it, pointsR_it, smallR_it, pointR_it, pairsR_it, unitsR_it, formR_it, isR_it, right_it, alive_it] [L5_6_it, L4_7_it, L4_19_70_it, L4_22_73_it, L4_19_68_it, L4_22_70_it, L4_19_it, L4_22_72_it, L4_22_it, L15_3_it, L36_0_it, L34_0_71_it, L34_0_it, L11_2_it, L24_2_it, L37_2_it, L35_3_it, L16_3_it, L14_4_it, L10_10_it, L19_3_it, L31_23_it, L21_3_it, L20_3_it, L20_7_65_it, L20_7_it, L25_4_it]).hk β) (sh := shT) (OneLoop.of (by kernel_rfl)) L7_11_T_ok ⟨⟨L7_11_Xexit0_ok, Nat.le_refl _, Nat.le_refl _⟩, ⟨L7_11_Xret_ok, Nat.le_refl _, Nat.le_refl _⟩, trivial⟩ (fun m => KnownOK.hook (((((((((((((((((((((((((((((((((((((((((((((((((KnownOK.nil.fn alive_ok).fn right_ok).loop L25_4_ok L25_4_T_ok).fn isR_ok).fn formR_ok).loop L20_7_ok L20_7_T_ok).loop L20_7_65_ok L20_7_65_T_ok).loop L20_3_ok L20_3_T_ok).fn unitsR_ok).loop L21_3_ok L21_3_T_ok).fn pairsR_ok).loop L31_23_ok L31_23_T_ok).fn pointR_ok).loop L19_3_ok L19_3_T_ok).fn smallR_ok).loop L10_10_ok L10_10_T_ok).fn pointsR_ok).loop L14_4_ok L14_4_T_ok).fn sameInts_ok).loop L16_3_ok L16_3_T_ok).fn bytesR_ok).loop L35_3_ok L35_3_T_ok).fn unit_ok).fn is_ok).fn drs_ok).loop L37_2_ok L37_2_T_ok).fn dr_ok).loop L24_2_ok L24_2_T_ok).fn fits_ok).loop L11_2_ok L11_2_T_ok).fn form_ok).loop L34_0_ok L34_0_T_ok).loop L34_0_71_ok L34_0_71_T_ok).loop L36_0_ok L36_0_T_ok).fn points_ok).loop L15_3_ok L15_3_T_ok).fn bytes_ok).fn utfPoints_ok).loop L4_22_ok L4_22_T_ok).loop L4_22_72_ok L4_22_72_T_ok).loop L4_19_ok L4_19_T_ok).loop L4_22_70_ok L4_22_70_T_ok).loop L4_19_68_ok L4_19_68_T_ok).loop L4_22_73_ok L4_22_73_T_ok).loop L4_19_70_ok L4_19_70_T_ok).loop L4_7_ok L4_7_T_ok).fn utfWide_ok).loop L5_6_ok L5_6_T_ok).fn utfLong_ok) m)
    (fun _ => by kernel_rfl) (fun m x => by kernel_rfl)

noncomputable def utfBytes (n : Nat) (l : List Int) : Option (Bool × Unit) :=
  Option.bind (alive n ) fun y0 =>
  bif (!y0.1) then
    some (y0.1, ())
  else
  bif (Go.Iv.ilt (1000 : Int) (len l)) then
    some (y0.1, ())
  else
  Option.bind (bytes (n + 9) l) fun y1 =>
  Option.bind (bytesR (n + 9) l) fun y2 =>
  bif (!(y1.1 == y2.1)) then
    some (Bool.false, ())
  else
  bif (room (((List.length ((239 : UInt8) :: ((187 : UInt8) :: ((191 : UInt8) :: [])))) + (List.length y1.1)) * 2)) then
  Option.bind (points (n + 6) (((239 : UInt8) :: ((187 : UInt8) :: ((191 : UInt8) :: []))) ++ y1.1)) fun y3 =>
  bif (y3.2.1 != (0 : Int)) then
    some (Bool.false, ())
  else
  bif ((len y3.1) != (len l)) then
    some (Bool.false, ())
  else
  Option.bind (L7_11 (n + 12) l y3.1 (0 : Int)) fun y22 =>
  match y22 with
    | .inl _ =>
      some (Bool.true, ())
    | .inr y24 =>
      some (y24.1.1, ())
  else none
noncomputable def utfBytes_it : FnIt := ⟨7, [(false, (.slc (.int .i64)))], [(false, .bool)], 12, fun n x => utfBytes n x.1⟩
theorem utfBytes_ok (n : Nat) : FnOK Go.Proofs.Tryd.prog hint shT utfBytes_it n :=
  FnOK.of (hk := fun β => (Known.mk [utfLong_it, utfWide_it, utfPoints_it, bytes_it, points_it, form_it, fits_it, dr_it, drs_it, is_it, unit_it, bytesR_it, sameInts_it, pointsR_it, smallR_it, pointR_it, pairsR_it, unitsR_it, formR_it, isR_it, right_it, alive_it] [L7_11_it, L5_6_it, L4_7_it, L4_19_70_it, L4_22_73_it, L4_19_68_it, L4_22_70_it, L4_19_it, L4_22_72_it, L4_22_it, L15_3_it, L36_0_it, L34_0_71_it, L34_0_it, L11_2_it, L24_2_it, L37_2_it, L35_3_it, L16_3_it, L14_4_it, L10_10_it, L19_3_it, L31_23_it, L21_3_it, L20_3_it, L20_7_65_it, L20_7_it, L25_4_it]).hk β) (sh := shT) (fun m _ => KnownOK.hook ((((((((((((((((((((((((((((((((((((((((((((((((((KnownOK.nil.fn alive_ok).fn right_ok).loop L25_4_ok L25_4_T_ok).fn isR_ok).fn formR_ok).loop L20_7_ok L20_7_T_ok).loop L20_7_65_ok L20_7_65_T_ok).loop L20_3_ok L20_3_T_ok).fn unitsR_ok).loop L21_3_ok L21_3_T_ok).fn pairsR_ok).loop L31_23_ok L31_23_T_ok).fn pointR_ok).loop L19_3_ok L19_3_T_ok).fn smallR_ok).loop L10_10_ok L10_10_T_ok).fn pointsR_ok).loop L14_4_ok L14_4_T_ok).fn sameInts_ok).loop L16_3_ok L16_3_T_ok).fn bytesR_ok).loop L35_3_ok L35_3_T_ok).fn unit_ok).fn is_ok).fn drs_ok).loop L37_2_ok L37_2_T_ok).fn dr_ok).loop L24_2_ok L24_2_T_ok).fn fits_ok).loop L11_2_ok L11_2_T_ok).fn form_ok).loop L34_0_ok L34_0_T_ok).loop L34_0_71_ok L34_0_71_T_ok).loop L36_0_ok L36_0_T_ok).fn points_ok).loop L15_3_ok L15_3_T_ok).fn bytes_ok).fn utfPoints_ok).loop L4_22_ok L4_22_T_ok).loop L4_22_72_ok L4_22_72_T_ok).loop L4_19_ok L4_19_T_ok).loop L4_22_70_ok L4_22_70_T_ok).loop L4_19_68_ok L4_19_68_T_ok).loop L4_22_73_ok L4_22_73_T_ok).loop L4_19_70_ok L4_19_70_T_ok).loop L4_7_ok L4_7_T_ok).fn utfWide_ok).loop L5_6_ok L5_6_T_ok).fn utfLong_ok).loop L7_11_ok L7_11_T_ok) m) (fun x => by kernel_rfl)


end Go.Proofs.YtjaiiojikollmaaDoor
