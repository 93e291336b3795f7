/- Functions of the seat as plain Lean. -/
import Derived.Test.YtodjomdnlcledaaGo2
import Derived.KernelRfl
namespace Go.Proofs.Ytodjomdnlcledaa.X
open Go Go.RowKit
set_option linter.unusedVariables false
set_option linter.unusedSimpArgs false
def orset_Fold (c : t26.den) (cut : t30.den) (Q : Res.den [t26] → Prop) : Prop :=
  orset_Check c fun r1 =>
  bif !r1 then
    Q c
  else
    slices_Clone_api_Member_api_Member c.2.2.2.2.1 fun r2 =>
    LoopP (fun (X22 : Shape.den ⟨[(14, .own 3 2 t40), (17, .own 3 2 t40), (19, .dat I)], [(0, .cells [.dat I, .dat I, .dat (Ty.slice t125), .dat (Ty.slice t52), .own 3 2 t40, .dat (Ty.slice t54)]), (3, .row 2 41 t40)], 4⟩ → Prop) (x21 : Shape.den ⟨[(14, .own 3 2 t40), (17, .own 3 2 t40), (19, .dat I)], [(0, .cells [.dat I, .dat I, .dat (Ty.slice t125), .dat (Ty.slice t52), .own 3 2 t40, .dat (Ty.slice t54)]), (3, .row 2 41 t40)], 4⟩) =>
      bif ltI x21.1.2.2.1 (List.length r2 : Int) then
        In x21.1.2.2.1 (List.length x21.2.2.1) ∧
        (fun (J36 : Shape.den ⟨[(7, .dat (Ty.slice t43))], [], 5⟩ → Prop) =>
          slices_Clone_api_Mark_api_Mark (rd (e := t40) x21.2.2.1 x21.1.2.2.1).2.2 fun r23 =>
          (fun (J28 : Shape.den ⟨[(5, .dat I)], [], 8⟩ → Prop) =>
            LoopP (fun (X25 : Shape.den ⟨[(8, .dat I)], [], 8⟩ → Prop) (x24 : Shape.den ⟨[(8, .dat I)], [], 8⟩) =>
              bif ltI x24.1.1 (List.length r23 : Int) then
                In x24.1.1 (List.length r23) ∧
                vec_Has cut (rd (e := t43) r23 x24.1.1).1 fun r26 =>
                bif r26 then
                  J28 ((x24.1.1, ()), (()))
                else
                  X25 ((IntKind.i64.wrap (x24.1.1 + (1 : Int)), ()), (()))
              else
                J28 (((-1 : Int), ()), (()))
            ) (((0 : Int), ()), (()))
          ) fun (x27 : Shape.den ⟨[(5, .dat I)], [], 8⟩) =>
          bif eqI x27.1.1 (-1 : Int) then
            J36 ((r23, ()), (()))
          else
            LoopP (fun (X33 : Shape.den ⟨[(0, .own 6 1 t43), (5, .dat I), (6, .dat I)], [(6, .row 1 44 t43)], 8⟩ → Prop) (x32 : Shape.den ⟨[(0, .own 6 1 t43), (5, .dat I), (6, .dat I)], [(6, .row 1 44 t43)], 8⟩) =>
              bif ltI x32.1.2.2.1 (List.length x32.2.1 : Int) then
                In x32.1.2.2.1 (List.length x32.2.1) ∧
                vec_Has cut (rd (e := t43) x32.2.1 x32.1.2.2.1).1 fun r34 =>
                bif !r34 then
                  In x32.1.2.1 (List.length x32.2.1) ∧
                  X33 (((), IntKind.i64.wrap (x32.1.2.1 + (1 : Int)), IntKind.i64.wrap (x32.1.2.2.1 + (1 : Int)), ()), (List.set x32.2.1 (Int.toNat x32.1.2.1) (rd (e := t43) x32.2.1 x32.1.2.2.1), ()))
                else
                  X33 (((), x32.1.2.1, IntKind.i64.wrap (x32.1.2.2.1 + (1 : Int)), ()), (x32.2.1, ()))
              else
                In2 x32.1.2.1 (List.length x32.2.1 : Int) (List.length x32.2.1 : Int) ∧
                In2 (0 : Int) x32.1.2.1 (List.length (List.take (Int.toNat x32.1.2.1) x32.2.1 ++ List.replicate (Int.toNat (List.length x32.2.1 : Int) - Int.toNat x32.1.2.1) (((0 : Int), (0 : Int)), (0 : Int)) ++ List.drop (Int.toNat (List.length x32.2.1 : Int)) x32.2.1) : Int) ∧
                J36 ((List.take (Int.toNat x32.1.2.1 - Int.toNat (0 : Int)) (List.drop (Int.toNat (0 : Int)) (List.take (Int.toNat x32.1.2.1) x32.2.1 ++ List.replicate (Int.toNat (List.length x32.2.1 : Int) - Int.toNat x32.1.2.1) (((0 : Int), (0 : Int)), (0 : Int)) ++ List.drop (Int.toNat (List.length x32.2.1 : Int)) x32.2.1)), ()), (()))
            ) (((), x27.1.1, IntKind.i64.wrap (x27.1.1 + (1 : Int)), ()), (r23, ()))
        ) fun (x35 : Shape.den ⟨[(7, .dat (Ty.slice t43))], [], 5⟩) =>
        (fun (J38 : Shape.den ⟨[(14, .own 3 3 t40), (17, .own 3 3 t40)], [(0, .cells [.dat I, .dat I, .dat (Ty.slice t125), .dat (Ty.slice t52), .own 3 3 t40, .dat (Ty.slice t54)]), (3, .row 3 41 t40)], 5⟩ → Prop) =>
          bif (rd (e := t40) x21.2.2.1 x21.1.2.2.1).2.1 then
            In x21.1.2.2.1 (List.length x21.2.2.1) ∧
            J38 (((), (), ()), ((x21.2.1.1, x21.2.1.2.1, x21.2.1.2.2.1, x21.2.1.2.2.2.1, (), x21.2.1.2.2.2.2.2.1, ()), List.set x21.2.2.1 (Int.toNat x21.1.2.2.1) ((rd (e := t40) x21.2.2.1 x21.1.2.2.1).1, (true, (rd (e := t40) x21.2.2.1 x21.1.2.2.1).2.2)), ()))
          else
            In x21.1.2.2.1 (List.length x21.2.2.1) ∧
            J38 (((), (), ()), ((x21.2.1.1, x21.2.1.2.1, x21.2.1.2.2.1, x21.2.1.2.2.2.1, (), x21.2.1.2.2.2.2.2.1, ()), List.set x21.2.2.1 (Int.toNat x21.1.2.2.1) ((rd (e := t40) x21.2.2.1 x21.1.2.2.1).1, (ltI (List.length x35.1.1 : Int) (List.length (rd (e := t40) x21.2.2.1 x21.1.2.2.1).2.2 : Int), (rd (e := t40) x21.2.2.1 x21.1.2.2.1).2.2)), ()))
        ) fun (x37 : Shape.den ⟨[(14, .own 3 3 t40), (17, .own 3 3 t40)], [(0, .cells [.dat I, .dat I, .dat (Ty.slice t125), .dat (Ty.slice t52), .own 3 3 t40, .dat (Ty.slice t54)]), (3, .row 3 41 t40)], 5⟩) =>
        In x21.1.2.2.1 (List.length x37.2.2.1) ∧
        X22 (((), (), IntKind.i64.wrap (x21.1.2.2.1 + (1 : Int)), ()), ((x37.2.1.1, x37.2.1.2.1, x37.2.1.2.2.1, x37.2.1.2.2.2.1, (), x37.2.1.2.2.2.2.2.1, ()), List.set x37.2.2.1 (Int.toNat x21.1.2.2.1) ((rd (e := t40) x37.2.2.1 x21.1.2.2.1).1, ((rd (e := t40) x37.2.2.1 x21.1.2.2.1).2.1, x35.1.1)), ()))
      else
        Q (x21.2.1.1, (x21.2.1.2.1, (x21.2.1.2.2.1, (x21.2.1.2.2.2.1, (x21.2.2.1, x21.2.1.2.2.2.2.2.1)))))
    ) (((), (), (0 : Int), ()), ((c.1, c.2.1, c.2.2.1, c.2.2.2.1, (), c.2.2.2.2.2, ()), r2, ()))
def orset_FoldS : FnSpec := ⟨[t26, t30], [t26], fun xs Q => orset_Fold xs.1 xs.2.1 Q⟩
noncomputable def orset_FoldB : Book := { P := Try.prog, ty := tys, eqv := eqvs, fn := fun | 16 => some orset_CheckS | 27 => some vec_HasS | _ => none, sp := fun | _ => none, fr := fun | 24 => some slices_Clone_api_Member_api_MemberS | 35 => some slices_Clone_api_Mark_api_MarkS | _ => none, inl := fun f av s => match f, s.L.length, av with
  | 26, 8, [_, .ptr 1 _] => some ⟨bodyOf Try.f26, .none, Try.f26.results.toList, Try.f26.ntmps, none⟩
  | 44, 8, [.own 6 0 _, _] => some ⟨bodyOf Try.f44, (.seq .none (.seq (.seq .none (.block (.loop ⟨[(8, .dat I)], [], 8⟩ .none))) .none)), Try.f44.results.toList, Try.f44.ntmps, none⟩
  | 26, 9, [_, .ptr 1 _] => some ⟨bodyOf Try.f26, .none, Try.f26.results.toList, Try.f26.ntmps, none⟩
  | 36, 7, [.own 6 0 _, _] => some ⟨bodyOf Try.f36, (.seq .none (.join ⟨[(5, .dat I)], [], 8⟩ .none (.seq .none (.seq (.seq .none (.block (.loop ⟨[(0, .own 6 1 t43), (5, .dat I), (6, .dat I)], [(6, .row 1 44 t43)], 8⟩ .none))) .none)))), Try.f36.results.toList, Try.f36.ntmps, none⟩
  | 25, 5, [_, _] => some ⟨bodyOf Try.f25, .none, Try.f25.results.toList, Try.f25.ntmps, some (Ty.slice t43)⟩ | _, _, _ => none }
theorem orset_Fold_body (xs : Args.den orset_FoldS.ps) (Q : Res.den orset_FoldS.rs → Prop) : bodyX (envX orset_FoldB 4 Try.f14.ntmps) Try.f14.results.toList orset_FoldS.rs (bodyOf Try.f14) (.seq .none (.seq .none (.seq .none (.seq (.seq .none (.block (.loop ⟨[(14, .own 3 2 t40), (17, .own 3 2 t40), (19, .dat I)], [(0, .cells [.dat I, .dat I, .dat (Ty.slice t125), .dat (Ty.slice t52), .own 3 2 t40, .dat (Ty.slice t54)]), (3, .row 2 41 t40)], 4⟩ (.seq .none (.seq .none (.seq (.block (.seq .none (.join ⟨[(7, .dat (Ty.slice t43))], [], 5⟩ .none (.join ⟨[(14, .own 3 3 t40), (17, .own 3 3 t40)], [(0, .cells [.dat I, .dat I, .dat (Ty.slice t125), .dat (Ty.slice t52), .own 3 3 t40, .dat (Ty.slice t54)]), (3, .row 3 41 t40)], 5⟩ .none .none)))) .none)))))) .none)))) (argsAV orset_FoldS.ps xs) Q = orset_FoldS.F xs Q := by
  kernel_rfl

def orset_Clear (c : t26.den) (t : t33.den) (i : I.den) (Q : Res.den [t26] → Prop) : Prop :=
  orset_may c i ByteArray.empty fun r1 =>
  bif !r1 then
    Q c
  else
    orset_opened c fun r2 =>
    LoopP (fun (X20 : Shape.den ⟨[(20, .dat I)], [(3, .map Ty.str t40)], 4⟩ → Prop) (x19 : Shape.den ⟨[(20, .dat I)], [(3, .map Ty.str t40)], 4⟩) =>
      bif ltI x19.1.1 (List.length c.2.2.2.2.1 : Int) then
        In x19.1.1 (List.length c.2.2.2.2.1) ∧
        bif !(Option.isSome (mget Ty.str x19.2.1 (rd (e := t40) c.2.2.2.2.1 x19.1.1).1)) then
          X20 ((IntKind.i64.wrap (x19.1.1 + (1 : Int)), ()), (x19.2.1, ()))
        else
          (fun (J34 : Shape.den ⟨[], [(7, .cells [.dat Ty.str, .dat Ty.bool, .dat (Ty.slice t43)])], 8⟩ → Prop) =>
            slices_Clone_api_Mark_api_Mark (Option.getD (mget Ty.str x19.2.1 (rd (e := t40) c.2.2.2.2.1 x19.1.1).1) (ByteArray.empty, (false, ([] : List t43.den)))).2.2 fun r21 =>
            (fun (J26 : Shape.den ⟨[(5, .dat I)], [], 11⟩ → Prop) =>
              LoopP (fun (X23 : Shape.den ⟨[(8, .dat I)], [], 11⟩ → Prop) (x22 : Shape.den ⟨[(8, .dat I)], [], 11⟩) =>
                bif ltI x22.1.1 (List.length r21 : Int) then
                  In x22.1.1 (List.length r21) ∧
                  ops_Before (rd (e := t43) r21 x22.1.1) t i fun r24 =>
                  bif r24 then
                    J26 ((x22.1.1, ()), (()))
                  else
                    X23 ((IntKind.i64.wrap (x22.1.1 + (1 : Int)), ()), (()))
                else
                  J26 (((-1 : Int), ()), (()))
              ) (((0 : Int), ()), (()))
            ) fun (x25 : Shape.den ⟨[(5, .dat I)], [], 11⟩) =>
            bif eqI x25.1.1 (-1 : Int) then
              J34 ((()), (((Option.getD (mget Ty.str x19.2.1 (rd (e := t40) c.2.2.2.2.1 x19.1.1).1) (ByteArray.empty, (false, ([] : List t43.den)))).1, false, r21, ()), ()))
            else
              LoopP (fun (X31 : Shape.den ⟨[(0, .own 9 1 t43), (5, .dat I), (6, .dat I)], [(9, .row 1 44 t43)], 11⟩ → Prop) (x30 : Shape.den ⟨[(0, .own 9 1 t43), (5, .dat I), (6, .dat I)], [(9, .row 1 44 t43)], 11⟩) =>
                bif ltI x30.1.2.2.1 (List.length x30.2.1 : Int) then
                  In x30.1.2.2.1 (List.length x30.2.1) ∧
                  ops_Before (rd (e := t43) x30.2.1 x30.1.2.2.1) t i fun r32 =>
                  bif !r32 then
                    In x30.1.2.1 (List.length x30.2.1) ∧
                    X31 (((), IntKind.i64.wrap (x30.1.2.1 + (1 : Int)), IntKind.i64.wrap (x30.1.2.2.1 + (1 : Int)), ()), (List.set x30.2.1 (Int.toNat x30.1.2.1) (rd (e := t43) x30.2.1 x30.1.2.2.1), ()))
                  else
                    X31 (((), x30.1.2.1, IntKind.i64.wrap (x30.1.2.2.1 + (1 : Int)), ()), (x30.2.1, ()))
                else
                  In2 x30.1.2.1 (List.length x30.2.1 : Int) (List.length x30.2.1 : Int) ∧
                  In2 (0 : Int) x30.1.2.1 (List.length (List.take (Int.toNat x30.1.2.1) x30.2.1 ++ List.replicate (Int.toNat (List.length x30.2.1 : Int) - Int.toNat x30.1.2.1) (((0 : Int), (0 : Int)), (0 : Int)) ++ List.drop (Int.toNat (List.length x30.2.1 : Int)) x30.2.1) : Int) ∧
                  J34 ((()), (((Option.getD (mget Ty.str x19.2.1 (rd (e := t40) c.2.2.2.2.1 x19.1.1).1) (ByteArray.empty, (false, ([] : List t43.den)))).1, false, List.take (Int.toNat x30.1.2.1 - Int.toNat (0 : Int)) (List.drop (Int.toNat (0 : Int)) (List.take (Int.toNat x30.1.2.1) x30.2.1 ++ List.replicate (Int.toNat (List.length x30.2.1 : Int) - Int.toNat x30.1.2.1) (((0 : Int), (0 : Int)), (0 : Int)) ++ List.drop (Int.toNat (List.length x30.2.1 : Int)) x30.2.1)), ()), ()))
              ) (((), x25.1.1, IntKind.i64.wrap (x25.1.1 + (1 : Int)), ()), (r21, ()))
          ) fun (x33 : Shape.den ⟨[], [(7, .cells [.dat Ty.str, .dat Ty.bool, .dat (Ty.slice t43)])], 8⟩) =>
          bif eqI (List.length x33.2.1.2.2.1 : Int) (0 : Int) then
            X20 ((IntKind.i64.wrap (x19.1.1 + (1 : Int)), ()), (mdel Ty.str x19.2.1 (rd (e := t40) c.2.2.2.2.1 x19.1.1).1, ()))
          else
            X20 ((IntKind.i64.wrap (x19.1.1 + (1 : Int)), ()), (mput Ty.str x19.2.1 (rd (e := t40) c.2.2.2.2.1 x19.1.1).1 (x33.2.1.1, (x33.2.1.2.1, x33.2.1.2.2.1)), ()))
      else
        LoopP (fun (X39 : Shape.den ⟨[(5, .own 6 2 Ty.str)], [(6, .row 2 9 Ty.str), (7, .iter 3 Ty.str t40)], 8⟩ → Prop) (x38 : Shape.den ⟨[(5, .own 6 2 Ty.str)], [(6, .row 2 9 Ty.str), (7, .iter 3 Ty.str t40)], 8⟩) =>
          bif List.isEmpty x38.2.2.1 then
            List.length x38.2.1 ≤ maxRow ∧
            LoopP (fun (X44 : Shape.den ⟨[(24, .dat I)], [(4, .cells [.dat I, .dat I, .dat (Ty.slice t125), .dat (Ty.slice t52), .own 8 1 t40, .dat (Ty.slice t54)]), (8, .row 1 41 t40)], 9⟩ → Prop) (x43 : Shape.den ⟨[(24, .dat I)], [(4, .cells [.dat I, .dat I, .dat (Ty.slice t125), .dat (Ty.slice t52), .own 8 1 t40, .dat (Ty.slice t54)]), (8, .row 1 41 t40)], 9⟩) =>
              bif ltI x43.1.1 (List.length (sortS x38.2.1) : Int) then
                In x43.1.1 (List.length (sortS x38.2.1)) ∧
                List.length x43.2.2.1 + List.length ([Option.getD (mget Ty.str x19.2.1 (rd (e := Ty.str) (sortS x38.2.1) x43.1.1)) (ByteArray.empty, (false, ([] : List t43.den)))]) ≤ maxRow ∧
                X44 ((IntKind.i64.wrap (x43.1.1 + (1 : Int)), ()), ((x43.2.1.1, x43.2.1.2.1, x43.2.1.2.2.1, x43.2.1.2.2.2.1, (), x43.2.1.2.2.2.2.2.1, ()), x43.2.2.1 ++ ([Option.getD (mget Ty.str x19.2.1 (rd (e := Ty.str) (sortS x38.2.1) x43.1.1)) (ByteArray.empty, (false, ([] : List t43.den)))]), ()))
              else
                Q (x43.2.1.1, (x43.2.1.2.1, (x43.2.1.2.2.1, (x43.2.1.2.2.2.1, (x43.2.2.1, x43.2.1.2.2.2.2.2.1)))))
            ) (((0 : Int), ()), ((c.1, c.2.1, c.2.2.1, c.2.2.2.1, (), c.2.2.2.2.2, ()), ([] : List t40.den), ()))
          else
            ∀ i40 : Nat,
            i40 < List.length x38.2.2.1 →
            List.length x38.2.1 + List.length ([(List.getD x38.2.2.1 i40 (ByteArray.empty, (ByteArray.empty, (false, ([] : List t43.den))))).1]) ≤ maxRow ∧
            X39 (((), ()), (x38.2.1 ++ ([(List.getD x38.2.2.1 i40 (ByteArray.empty, (ByteArray.empty, (false, ([] : List t43.den))))).1]), List.eraseIdx x38.2.2.1 i40, ()))
        ) (((), ()), (([] : List Ty.str.den), x19.2.1, ()))
    ) (((0 : Int), ()), (r2, ()))
def orset_ClearS : FnSpec := ⟨[t26, t33, I], [t26], fun xs Q => orset_Clear xs.1 xs.2.1 xs.2.2.1 Q⟩
noncomputable def orset_ClearB : Book := { P := Try.prog, ty := tys, eqv := eqvs, fn := fun | 18 => some orset_mayS | 31 => some ops_BeforeS | _ => none, sp := fun | 32 => some (sortX .str sortS) | _ => none, fr := fun | 19 => some orset_openedS | 35 => some slices_Clone_api_Mark_api_MarkS | _ => none, inl := fun f av s => match f, s.L.length, av with
  | 30, 11, [_, .ptr 5 _, .ptr 6 _] => some ⟨bodyOf Try.f30, .none, Try.f30.results.toList, Try.f30.ntmps, none⟩
  | 44, 11, [.own 9 0 _, _] => some ⟨bodyOf Try.f44, (.seq .none (.seq (.seq .none (.block (.loop ⟨[(8, .dat I)], [], 11⟩ .none))) .none)), Try.f44.results.toList, Try.f44.ntmps, none⟩
  | 30, 12, [_, .ptr 5 _, .ptr 6 _] => some ⟨bodyOf Try.f30, .none, Try.f30.results.toList, Try.f30.ntmps, none⟩
  | 36, 10, [.own 9 0 _, _] => some ⟨bodyOf Try.f36, (.seq .none (.join ⟨[(5, .dat I)], [], 11⟩ .none (.seq .none (.seq (.seq .none (.block (.loop ⟨[(0, .own 9 1 t43), (5, .dat I), (6, .dat I)], [(9, .row 1 44 t43)], 11⟩ .none))) .none)))), Try.f36.results.toList, Try.f36.ntmps, none⟩
  | 25, 8, [_, _] => some ⟨bodyOf Try.f25, .none, Try.f25.results.toList, Try.f25.ntmps, some (Ty.slice t43)⟩
  | 20, 5, [.mp 3, _, _, _] => some ⟨bodyOf Try.f20, (.seq .none (.seq .none (.seq .none (.seq .none (.join ⟨[], [(7, .cells [.dat Ty.str, .dat Ty.bool, .dat (Ty.slice t43)])], 8⟩ .none .none))))), Try.f20.results.toList, Try.f20.ntmps, none⟩
  | 21, 4, [_, .mp 3] => some ⟨bodyOf Try.f21, (.seq .none (.seq .none (.seq (.seq .none (.block (.loop ⟨[(5, .own 6 2 Ty.str)], [(6, .row 2 9 Ty.str), (7, .iter 3 Ty.str t40)], 8⟩ .none))) (.seq .none (.seq .none (.seq (.seq .none (.block (.loopU [(4, 4, 41, t40)] ⟨[(24, .dat I)], [(4, .cells [.dat I, .dat I, .dat (Ty.slice t125), .dat (Ty.slice t52), .own 8 1 t40, .dat (Ty.slice t54)]), (8, .row 1 41 t40)], 9⟩ .none))) .none)))))), Try.f21.results.toList, Try.f21.ntmps, none⟩ | _, _, _ => none }
theorem orset_Clear_body (xs : Args.den orset_ClearS.ps) (Q : Res.den orset_ClearS.rs → Prop) : bodyX (envX orset_ClearB 5 Try.f15.ntmps) Try.f15.results.toList orset_ClearS.rs (bodyOf Try.f15) (.seq .none (.seq .none (.seq .none (.seq (.seq .none (.block (.loop ⟨[(20, .dat I)], [(3, .map Ty.str t40)], 4⟩ .none))) .none)))) (argsAV orset_ClearS.ps xs) Q = orset_ClearS.F xs Q := by
  kernel_rfl

def law10_heads  (Q : Res.den [Ty.bool] → Prop) : Prop :=
  In (1 : Int) 13 ∧
  orset_Add ((4 : Int), ((0 : Int), (([] : List t125.den), (([] : List t52.den), (([] : List t40.den), ([] : List t54.den)))))) (((1 : Int), (1 : Int)), ((List.replicate 13 (0 : Int)), ((0 : Int), ([] : List t57.den)))) (1 : Int) str0 fun r1 =>
  orset_Add r1 (((1 : Int), (1 : Int)), ((List.replicate 13 (0 : Int)), ((0 : Int), ([] : List t57.den)))) (2 : Int) str1 fun r2 =>
  orset_Fold r2 (setA (List.replicate 13 (0 : Int)) (Int.toNat (1 : Int)) (1 : Int)) fun r3 =>
  orset_Del r1 (((2 : Int), (1 : Int)), ((List.replicate 13 (0 : Int)), ((0 : Int), ([] : List t57.den)))) (1 : Int) str0 fun r4 =>
  orset_Read r4 fun r5 =>
  ref08_Texts r5.2.2.1 ([str0]) fun r6 =>
  bif r6 then
    orset_Del r1 (((3 : Int), (1 : Int)), (setA (List.replicate 13 (0 : Int)) (Int.toNat (1 : Int)) (1 : Int), ((0 : Int), ([] : List t57.den)))) (1 : Int) str0 fun r7 =>
    orset_Read r7 fun r8 =>
    bif eqI (List.length r8.2.2.1 : Int) (0 : Int) then
      orset_Read r2 fun r9 =>
      ref08_Texts r9.2.2.1 ([str0, str1]) fun r10 =>
      bif r10 then
        bif eqI (List.length r3.2.2.2.2.1 : Int) (2 : Int) then
          In (0 : Int) (List.length r3.2.2.2.2.1) ∧
          bif (rd (e := t40) r3.2.2.2.2.1 (0 : Int)).2.1 then
            In (0 : Int) (List.length r3.2.2.2.2.1) ∧
            bif eqI (List.length (rd (e := t40) r3.2.2.2.2.1 (0 : Int)).2.2 : Int) (0 : Int) then
              orset_Clear r3 (((3 : Int), (1 : Int)), (setA (List.replicate 13 (0 : Int)) (Int.toNat (1 : Int)) (1 : Int), ((0 : Int), ([] : List t57.den)))) (1 : Int) fun r11 =>
              bif eqI (List.length r11.2.2.2.2.1 : Int) (0 : Int) then
                orset_Check r3 fun r12 =>
                Q r12
              else
                Q false
            else
              Q false
          else
            Q false
        else
          Q false
      else
        Q false
    else
      Q false
  else
    Q false
def law10_headsS : FnSpec := ⟨[], [Ty.bool], fun xs Q => law10_heads  Q⟩
noncomputable def law10_headsB : Book := { P := Try.prog, ty := tys, eqv := eqvs, fn := fun | 9 => some ref08_TextsS | 10 => some orset_ReadS | 11 => some orset_DelS | 13 => some orset_AddS | 14 => some orset_FoldS | 15 => some orset_ClearS | 16 => some orset_CheckS | _ => none, sp := fun | _ => none, fr := fun | _ => none, inl := fun f av s => match f, s.L.length, av with | _, _, _ => none }
theorem law10_heads_body (xs : Args.den law10_headsS.ps) (Q : Res.den law10_headsS.rs → Prop) : bodyX (envX law10_headsB 0 Try.f7.ntmps) Try.f7.results.toList law10_headsS.rs (bodyOf Try.f7) .none (argsAV law10_headsS.ps xs) Q = law10_headsS.F xs Q := by
  kernel_rfl

def ref03_Peer (p : I.den) (Q : Res.den [Ty.bool] → Prop) : Prop :=
  bif geI p (1 : Int) then
    Q (leI p (12 : Int))
  else
    Q false
def ref03_PeerS : FnSpec := ⟨[I], [Ty.bool], fun xs Q => ref03_Peer xs.1 Q⟩
noncomputable def ref03_PeerB : Book := { P := Try.prog, ty := tys, eqv := eqvs, fn := fun | _ => none, sp := fun | _ => none, fr := fun | _ => none, inl := fun f av s => match f, s.L.length, av with | _, _, _ => none }
theorem ref03_Peer_body (xs : Args.den ref03_PeerS.ps) (Q : Res.den ref03_PeerS.rs → Prop) : bodyX (envX ref03_PeerB 0 Try.f29.ntmps) Try.f29.results.toList ref03_PeerS.rs (bodyOf Try.f29) .none (argsAV ref03_PeerS.ps xs) Q = ref03_PeerS.F xs Q := by
  kernel_rfl

def ref03_Has (v : t30.den) (d : t28.den) (Q : Res.den [Ty.bool] → Prop) : Prop :=
  ref03_Peer d.1 fun r1 =>
  bif r1 then
    bif geI d.2 (1 : Int) then
      In d.1 13 ∧
      Q (leI d.2 (List.getD v (Int.toNat d.1) 0))
    else
      Q false
  else
    Q false
def ref03_HasS : FnSpec := ⟨[t30, t28], [Ty.bool], fun xs Q => ref03_Has xs.1 xs.2.1 Q⟩
noncomputable def ref03_HasB : Book := { P := Try.prog, ty := tys, eqv := eqvs, fn := fun | 29 => some ref03_PeerS | _ => none, sp := fun | _ => none, fr := fun | _ => none, inl := fun f av s => match f, s.L.length, av with | _, _, _ => none }
theorem ref03_Has_body (xs : Args.den ref03_HasS.ps) (Q : Res.den ref03_HasS.rs → Prop) : bodyX (envX ref03_HasB 0 Try.f17.ntmps) Try.f17.results.toList ref03_HasS.rs (bodyOf Try.f17) (.seq .none (.seq (.order [0, 1, 2, 3, 4, 5, 6, 7, 8, 9, 10, 11, 12, 13, 14, 15, 16, 17]) .none)) (argsAV ref03_HasS.ps xs) Q = ref03_HasS.F xs Q := by
  kernel_rfl

def ref07_Before (m : t43.den) (t : t33.den) (index : I.den) (Q : Res.den [Ty.bool] → Prop) : Prop :=
  bif ltI m.2 (1 : Int) then
    Q false
  else
    (fun (J2 : Shape.den ⟨[], [], 2⟩ → Prop) =>
      bif eqD t28 m.1 t.1 then
        bif ltI m.2 index then
          Q true
        else
          J2 ((()), (()))
      else
        J2 ((()), (()))
    ) fun (x1 : Shape.den ⟨[], [], 2⟩) =>
    ref03_Has t.2.1 m.1 fun r3 =>
    Q r3
def ref07_BeforeS : FnSpec := ⟨[t43, t33, I], [Ty.bool], fun xs Q => ref07_Before xs.1 xs.2.1 xs.2.2.1 Q⟩
noncomputable def ref07_BeforeB : Book := { P := Try.prog, ty := tys, eqv := eqvs, fn := fun | 17 => some ref03_HasS | _ => none, sp := fun | _ => none, fr := fun | _ => none, inl := fun f av s => match f, s.L.length, av with | _, _, _ => none }
theorem ref07_Before_body (xs : Args.den ref07_BeforeS.ps) (Q : Res.den ref07_BeforeS.rs → Prop) : bodyX (envX ref07_BeforeB 0 Try.f8.ntmps) Try.f8.results.toList ref07_BeforeS.rs (bodyOf Try.f8) (.seq .none (.seq .none (.join ⟨[], [], 2⟩ .none .none))) (argsAV ref07_BeforeS.ps xs) Q = ref07_BeforeS.F xs Q := by
  kernel_rfl

end Go.Proofs.Ytodjomdnlcledaa.X
