/- Functions of the seat as plain Lean. -/
import Derived.Test.YtodjomdnlcledaaGo3
import Derived.KernelRfl
namespace Go.Proofs.Ytodjomdnlcledaa.X
open Go Go.RowKit
set_option linter.unusedVariables false
set_option linter.unusedSimpArgs false
def law10_OrsetGoes (c : t26.den) (t : t33.den) (s : Ty.str.den) (Q : Res.den [Ty.bool] → Prop) : Prop :=
  (fun (J5 : Shape.den ⟨[(28, .dat Ty.bool)], [], 2⟩ → Prop) =>
    ref08_Few c fun r1 =>
    bif !r1 then
      J5 ((true, ()), (()))
    else
      ref10_Check c fun r2 =>
      bif !r2 then
        J5 ((true, ()), (()))
      else
        ref07_Small t fun r3 =>
        bif !r3 then
          J5 ((true, ()), (()))
        else
          J5 ((gtI (ByteArray.size s : Int) (64 : Int), ()), (()))
  ) fun (x4 : Shape.den ⟨[(28, .dat Ty.bool)], [], 2⟩) =>
  bif x4.1.1 then
    law10_heads  fun r6 =>
    Q r6
  else
    LoopP (fun (X14 : Shape.den ⟨[(7, .own 2 2 Ty.str), (8, .dat I)], [(2, .row 2 9 Ty.str)], 3⟩ → Prop) (x13 : Shape.den ⟨[(7, .own 2 2 Ty.str), (8, .dat I)], [(2, .row 2 9 Ty.str)], 3⟩) =>
      bif ltI x13.1.2.1 (List.length c.2.2.2.2.1 : Int) then
        In x13.1.2.1 (List.length c.2.2.2.2.1) ∧
        bif !(eqS (rd (e := t40) c.2.2.2.2.1 x13.1.2.1).1 s) then
          List.length x13.2.1 + List.length ([(rd (e := t40) c.2.2.2.2.1 x13.1.2.1).1]) ≤ maxRow ∧
          X14 (((), IntKind.i64.wrap (x13.1.2.1 + (1 : Int)), ()), (x13.2.1 ++ ([(rd (e := t40) c.2.2.2.2.1 x13.1.2.1).1]), ()))
        else
          LoopP (fun (X16 : Shape.den ⟨[(10, .dat I)], [], 4⟩ → Prop) (x15 : Shape.den ⟨[(10, .dat I)], [], 4⟩) =>
            bif ltI x15.1.1 (List.length (rd (e := t40) c.2.2.2.2.1 x13.1.2.1).2.2 : Int) then
              In x15.1.1 (List.length (rd (e := t40) c.2.2.2.2.1 x13.1.2.1).2.2) ∧
              ref07_Before (rd (e := t43) (rd (e := t40) c.2.2.2.2.1 x13.1.2.1).2.2 x15.1.1) t (1 : Int) fun r17 =>
              bif !r17 then
                law10_heads  fun r18 =>
                Q r18
              else
                X16 ((IntKind.i64.wrap (x15.1.1 + (1 : Int)), ()), (()))
            else
              X14 (((), IntKind.i64.wrap (x13.1.2.1 + (1 : Int)), ()), (x13.2.1, ()))
          ) (((0 : Int), ()), (()))
      else
        orset_Del c t (1 : Int) s fun r19 =>
        orset_Read r19 fun r20 =>
        ref08_Texts r20.2.2.1 x13.2.1 fun r21 =>
        bif r21 then
          law10_heads  fun r22 =>
          Q r22
        else
          Q false
    ) (((), (0 : Int), ()), (([] : List Ty.str.den), ()))
def law10_OrsetGoesS : FnSpec := ⟨[t26, t33, Ty.str], [Ty.bool], fun xs Q => law10_OrsetGoes xs.1 xs.2.1 xs.2.2.1 Q⟩
noncomputable def law10_OrsetGoesB : Book := { P := Try.prog, ty := tys, eqv := eqvs, fn := fun | 4 => some ref08_FewS | 5 => some ref10_CheckS | 6 => some ref07_SmallS | 7 => some law10_headsS | 8 => some ref07_BeforeS | 9 => some ref08_TextsS | 10 => some orset_ReadS | 11 => some orset_DelS | _ => none, sp := fun | _ => none, fr := fun | _ => none, inl := fun f av s => match f, s.L.length, av with | _, _, _ => none }
theorem law10_OrsetGoes_body (xs : Args.den law10_OrsetGoesS.ps) (Q : Res.den law10_OrsetGoesS.rs → Prop) : bodyX (envX law10_OrsetGoesB 0 Try.f3.ntmps) Try.f3.results.toList law10_OrsetGoesS.rs (bodyOf Try.f3) (.seq .none (.seq (.join ⟨[(28, .dat Ty.bool)], [], 2⟩ .none .none) (.seq .none (.seq (.seq .none (.block (.loop ⟨[(7, .own 2 2 Ty.str), (8, .dat I)], [(2, .row 2 9 Ty.str)], 3⟩ (.seq .none (.seq (.block (.seq .none (.seq .none (.seq .none (.block (.loop ⟨[(10, .dat I)], [], 4⟩ (.seq .none (.seq (.block (.seq (.order [0, 1, 2, 3, 4, 5, 6, 7]) .none)) .none)))))))) .none))))) .none)))) (argsAV law10_OrsetGoesS.ps xs) Q = law10_OrsetGoesS.F xs Q := by
  kernel_rfl

end Go.Proofs.Ytodjomdnlcledaa.X
