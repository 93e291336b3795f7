/- Functions of the seat as plain Lean. -/
import Derived.Test.YtodjomdnlcledaaGo0
import Derived.KernelRfl
namespace Go.Proofs.Ytodjomdnlcledaa.X
open Go Go.RowKit
set_option linter.unusedVariables false
set_option linter.unusedSimpArgs false
def ref08_Few (c : t26.den) (Q : Res.den [Ty.bool] → Prop) : Prop :=
  bif gtI (IntKind.i64.wrap ((IntKind.i64.wrap ((IntKind.i64.wrap ((List.length c.2.2.1 : Int) + (List.length c.2.2.2.1 : Int))) + (List.length c.2.2.2.2.1 : Int))) + (List.length c.2.2.2.2.2 : Int))) (60 : Int) then
    Q false
  else
    LoopP (fun (X2 : Shape.den ⟨[(3, .dat I)], [], 1⟩ → Prop) (x1 : Shape.den ⟨[(3, .dat I)], [], 1⟩) =>
      bif ltI x1.1.1 (List.length c.2.2.2.1 : Int) then
        In x1.1.1 (List.length c.2.2.2.1) ∧
        bif gtI (ByteArray.size (rd (e := t52) c.2.2.2.1 x1.1.1).2.2 : Int) (100 : Int) then
          Q false
        else
          X2 ((IntKind.i64.wrap (x1.1.1 + (1 : Int)), ()), (()))
      else
        LoopP (fun (X4 : Shape.den ⟨[(4, .dat I)], [], 1⟩ → Prop) (x3 : Shape.den ⟨[(4, .dat I)], [], 1⟩) =>
          bif ltI x3.1.1 (List.length c.2.2.2.2.1 : Int) then
            In x3.1.1 (List.length c.2.2.2.2.1) ∧
            bif gtI (ByteArray.size (rd (e := t40) c.2.2.2.2.1 x3.1.1).1 : Int) (100 : Int) then
              Q false
            else
              In x3.1.1 (List.length c.2.2.2.2.1) ∧
              bif gtI (List.length (rd (e := t40) c.2.2.2.2.1 x3.1.1).2.2 : Int) (30 : Int) then
                Q false
              else
                X4 ((IntKind.i64.wrap (x3.1.1 + (1 : Int)), ()), (()))
          else
            LoopP (fun (X6 : Shape.den ⟨[(5, .dat I)], [], 1⟩ → Prop) (x5 : Shape.den ⟨[(5, .dat I)], [], 1⟩) =>
              bif ltI x5.1.1 (List.length c.2.2.2.2.2 : Int) then
                In x5.1.1 (List.length c.2.2.2.2.2) ∧
                bif gtI (ByteArray.size (rd (e := t54) c.2.2.2.2.2 x5.1.1).2.2.2.1 : Int) (100 : Int) then
                  Q false
                else
                  In x5.1.1 (List.length c.2.2.2.2.2) ∧
                  bif gtI (List.length (rd (e := t54) c.2.2.2.2.2 x5.1.1).2.2.2.2 : Int) (30 : Int) then
                    Q false
                  else
                    X6 ((IntKind.i64.wrap (x5.1.1 + (1 : Int)), ()), (()))
              else
                Q true
            ) (((0 : Int), ()), (()))
        ) (((0 : Int), ()), (()))
    ) (((0 : Int), ()), (()))
def ref08_FewS : FnSpec := ⟨[t26], [Ty.bool], fun xs Q => ref08_Few xs.1 Q⟩
noncomputable def ref08_FewB : Book := { P := Try.prog, ty := tys, eqv := eqvs, fn := fun | _ => none, sp := fun | _ => none, fr := fun | _ => none, inl := fun f av s => match f, s.L.length, av with | _, _, _ => none }
theorem ref08_Few_body (xs : Args.den ref08_FewS.ps) (Q : Res.den ref08_FewS.rs → Prop) : bodyX (envX ref08_FewB 0 Try.f4.ntmps) Try.f4.results.toList ref08_FewS.rs (bodyOf Try.f4) (.seq .none (.seq .none (.seq (.seq .none (.block (.loop ⟨[(3, .dat I)], [], 1⟩ .none))) (.seq (.seq .none (.block (.loop ⟨[(4, .dat I)], [], 1⟩ .none))) (.seq (.seq .none (.block (.loop ⟨[(5, .dat I)], [], 1⟩ .none))) .none))))) (argsAV ref08_FewS.ps xs) Q = ref08_FewS.F xs Q := by
  kernel_rfl

def ref07_Less (a : t43.den) (b : t43.den) (Q : Res.den [Ty.bool] → Prop) : Prop :=
  bif neI a.1.1 b.1.1 then
    Q (ltI a.1.1 b.1.1)
  else
    bif neI a.1.2 b.1.2 then
      Q (ltI a.1.2 b.1.2)
    else
      Q (ltI a.2 b.2)
def ref07_LessS : FnSpec := ⟨[t43, t43], [Ty.bool], fun xs Q => ref07_Less xs.1 xs.2.1 Q⟩
noncomputable def ref07_LessB : Book := { P := Try.prog, ty := tys, eqv := eqvs, fn := fun | _ => none, sp := fun | _ => none, fr := fun | _ => none, inl := fun f av s => match f, s.L.length, av with | _, _, _ => none }
theorem ref07_Less_body (xs : Args.den ref07_LessS.ps) (Q : Res.den ref07_LessS.rs → Prop) : bodyX (envX ref07_LessB 0 Try.f22.ntmps) Try.f22.results.toList ref07_LessS.rs (bodyOf Try.f22) .none (argsAV ref07_LessS.ps xs) Q = ref07_LessS.F xs Q := by
  kernel_rfl

def ref10_Rising (l : (Ty.slice t43).den) (Q : Res.den [Ty.bool] → Prop) : Prop :=
  LoopP (fun (X2 : Shape.den ⟨[(3, .dat I)], [], 0⟩ → Prop) (x1 : Shape.den ⟨[(3, .dat I)], [], 0⟩) =>
    bif ltI x1.1.1 (List.length l : Int) then
      In x1.1.1 (List.length l) ∧
      bif ltI (rd (e := t43) l x1.1.1).2 (1 : Int) then
        Q false
      else
        bif gtI x1.1.1 (0 : Int) then
          In (IntKind.i64.wrap (x1.1.1 - (1 : Int))) (List.length l) ∧
          In x1.1.1 (List.length l) ∧
          ref07_Less (rd (e := t43) l (IntKind.i64.wrap (x1.1.1 - (1 : Int)))) (rd (e := t43) l x1.1.1) fun r3 =>
          bif !r3 then
            Q false
          else
            X2 ((IntKind.i64.wrap (x1.1.1 + (1 : Int)), ()), (()))
        else
          X2 ((IntKind.i64.wrap (x1.1.1 + (1 : Int)), ()), (()))
    else
      Q true
  ) (((0 : Int), ()), (()))
def ref10_RisingS : FnSpec := ⟨[Ty.slice t43], [Ty.bool], fun xs Q => ref10_Rising xs.1 Q⟩
noncomputable def ref10_RisingB : Book := { P := Try.prog, ty := tys, eqv := eqvs, fn := fun | 22 => some ref07_LessS | _ => none, sp := fun | _ => none, fr := fun | _ => none, inl := fun f av s => match f, s.L.length, av with | _, _, _ => none }
theorem ref10_Rising_body (xs : Args.den ref10_RisingS.ps) (Q : Res.den ref10_RisingS.rs → Prop) : bodyX (envX ref10_RisingB 0 Try.f12.ntmps) Try.f12.results.toList ref10_RisingS.rs (bodyOf Try.f12) (.seq .none (.seq (.seq .none (.block (.loop ⟨[(3, .dat I)], [], 0⟩ (.seq .none (.seq (.block (.seq (.order [0, 1, 2, 3, 4, 5, 6, 7, 8, 9, 10, 11, 12, 13, 14, 15, 16, 17, 18, 19, 20, 21, 22]) .none)) .none))))) .none)) (argsAV ref10_RisingS.ps xs) Q = ref10_RisingS.F xs Q := by
  kernel_rfl

def ref10_Check (c : t26.den) (Q : Res.den [Ty.bool] → Prop) : Prop :=
  bif neI c.1 (4 : Int) then
    Q false
  else
    bif neI c.2.1 (0 : Int) then
      Q false
    else
      bif gtI (IntKind.i64.wrap ((IntKind.i64.wrap ((List.length c.2.2.1 : Int) + (List.length c.2.2.2.1 : Int))) + (List.length c.2.2.2.2.2 : Int))) (0 : Int) then
        Q false
      else
        LoopP (fun (X2 : Shape.den ⟨[(3, .dat I)], [], 1⟩ → Prop) (x1 : Shape.den ⟨[(3, .dat I)], [], 1⟩) =>
          bif ltI x1.1.1 (List.length c.2.2.2.2.1 : Int) then
            In x1.1.1 (List.length c.2.2.2.2.1) ∧
            bif gtI (ByteArray.size (rd (e := t40) c.2.2.2.2.1 x1.1.1).1 : Int) (64 : Int) then
              Q false
            else
              bif !(rd (e := t40) c.2.2.2.2.1 x1.1.1).2.1 then
                bif eqI (List.length (rd (e := t40) c.2.2.2.2.1 x1.1.1).2.2 : Int) (0 : Int) then
                  Q false
                else
                  ref10_Rising (rd (e := t40) c.2.2.2.2.1 x1.1.1).2.2 fun r3 =>
                  bif !r3 then
                    Q false
                  else
                    bif gtI x1.1.1 (0 : Int) then
                      In (IntKind.i64.wrap (x1.1.1 - (1 : Int))) (List.length c.2.2.2.2.1) ∧
                      bif leS (rd (e := t40) c.2.2.2.2.1 x1.1.1).1 (rd (e := t40) c.2.2.2.2.1 (IntKind.i64.wrap (x1.1.1 - (1 : Int)))).1 then
                        Q false
                      else
                        X2 ((IntKind.i64.wrap (x1.1.1 + (1 : Int)), ()), (()))
                    else
                      X2 ((IntKind.i64.wrap (x1.1.1 + (1 : Int)), ()), (()))
              else
                ref10_Rising (rd (e := t40) c.2.2.2.2.1 x1.1.1).2.2 fun r4 =>
                bif !r4 then
                  Q false
                else
                  bif gtI x1.1.1 (0 : Int) then
                    In (IntKind.i64.wrap (x1.1.1 - (1 : Int))) (List.length c.2.2.2.2.1) ∧
                    bif leS (rd (e := t40) c.2.2.2.2.1 x1.1.1).1 (rd (e := t40) c.2.2.2.2.1 (IntKind.i64.wrap (x1.1.1 - (1 : Int)))).1 then
                      Q false
                    else
                      X2 ((IntKind.i64.wrap (x1.1.1 + (1 : Int)), ()), (()))
                  else
                    X2 ((IntKind.i64.wrap (x1.1.1 + (1 : Int)), ()), (()))
          else
            Q true
        ) (((0 : Int), ()), (()))
def ref10_CheckS : FnSpec := ⟨[t26], [Ty.bool], fun xs Q => ref10_Check xs.1 Q⟩
noncomputable def ref10_CheckB : Book := { P := Try.prog, ty := tys, eqv := eqvs, fn := fun | 12 => some ref10_RisingS | _ => none, sp := fun | _ => none, fr := fun | _ => none, inl := fun f av s => match f, s.L.length, av with | _, _, _ => none }
theorem ref10_Check_body (xs : Args.den ref10_CheckS.ps) (Q : Res.den ref10_CheckS.rs → Prop) : bodyX (envX ref10_CheckB 0 Try.f5.ntmps) Try.f5.results.toList ref10_CheckS.rs (bodyOf Try.f5) (.seq .none (.seq .none (.seq (.seq .none (.block (.loop ⟨[(3, .dat I)], [], 1⟩ (.seq .none (.seq (.block (.seq .none (.seq (.order [0, 1, 2, 3, 4, 5, 6, 7, 8, 9, 10, 11, 12, 13, 14, 15, 16, 17, 18, 19, 20, 21, 22, 23, 24, 25, 26, 27, 28, 29, 30, 31, 32, 33, 34, 35, 36]) .none))) .none))))) .none))) (argsAV ref10_CheckS.ps xs) Q = ref10_CheckS.F xs Q := by
  kernel_rfl

def ref07_Small (t : t33.den) (Q : Res.den [Ty.bool] → Prop) : Prop :=
  (fun (J4 : Shape.den ⟨[], [], 1⟩ → Prop) =>
    LoopP (fun (X2 : Shape.den ⟨[(3, .dat I)], [], 1⟩ → Prop) (x1 : Shape.den ⟨[(3, .dat I)], [], 1⟩) =>
      bif ltI x1.1.1 (List.length t.2.2.2 : Int) then
        bif leI (List.length t.2.2.2 : Int) (40 : Int) then
          In x1.1.1 (List.length t.2.2.2) ∧
          bif gtI (ByteArray.size (rd (e := t57) t.2.2.2 x1.1.1).2.1 : Int) (100 : Int) then
            Q false
          else
            bif gtI (ByteArray.size (rd (e := t57) t.2.2.2 x1.1.1).2.2.1 : Int) (100 : Int) then
              Q false
            else
              bif gtI (ByteArray.size (rd (e := t57) t.2.2.2 x1.1.1).2.2.2.2.2.2.1 : Int) (100 : Int) then
                Q false
              else
                X2 ((IntKind.i64.wrap (x1.1.1 + (1 : Int)), ()), (()))
        else
          J4 ((()), (()))
      else
        J4 ((()), (()))
    ) (((0 : Int), ()), (()))
  ) fun (x3 : Shape.den ⟨[], [], 1⟩) =>
  Q (leI (List.length t.2.2.2 : Int) (40 : Int))
def ref07_SmallS : FnSpec := ⟨[t33], [Ty.bool], fun xs Q => ref07_Small xs.1 Q⟩
noncomputable def ref07_SmallB : Book := { P := Try.prog, ty := tys, eqv := eqvs, fn := fun | _ => none, sp := fun | _ => none, fr := fun | _ => none, inl := fun f av s => match f, s.L.length, av with | _, _, _ => none }
theorem ref07_Small_body (xs : Args.den ref07_SmallS.ps) (Q : Res.den ref07_SmallS.rs → Prop) : bodyX (envX ref07_SmallB 0 Try.f6.ntmps) Try.f6.results.toList ref07_SmallS.rs (bodyOf Try.f6) (.seq .none (.join ⟨[], [], 1⟩ (.seq .none (.block (.loop ⟨[(3, .dat I)], [], 1⟩ .none))) .none)) (argsAV ref07_SmallS.ps xs) Q = ref07_SmallS.F xs Q := by
  kernel_rfl

def ref08_Texts (a : (Ty.slice Ty.str).den) (b : (Ty.slice Ty.str).den) (Q : Res.den [Ty.bool] → Prop) : Prop :=
  bif neI (List.length a : Int) (List.length b : Int) then
    Q false
  else
    LoopP (fun (X2 : Shape.den ⟨[(5, .dat I)], [], 0⟩ → Prop) (x1 : Shape.den ⟨[(5, .dat I)], [], 0⟩) =>
      bif ltI x1.1.1 (List.length a : Int) then
        In x1.1.1 (List.length a) ∧
        In x1.1.1 (List.length b) ∧
        bif !(eqS (rd (e := Ty.str) a x1.1.1) (rd (e := Ty.str) b x1.1.1)) then
          Q false
        else
          X2 ((IntKind.i64.wrap (x1.1.1 + (1 : Int)), ()), (()))
      else
        Q true
    ) (((0 : Int), ()), (()))
def ref08_TextsS : FnSpec := ⟨[Ty.slice Ty.str, Ty.slice Ty.str], [Ty.bool], fun xs Q => ref08_Texts xs.1 xs.2.1 Q⟩
noncomputable def ref08_TextsB : Book := { P := Try.prog, ty := tys, eqv := eqvs, fn := fun | _ => none, sp := fun | _ => none, fr := fun | _ => none, inl := fun f av s => match f, s.L.length, av with | _, _, _ => none }
theorem ref08_Texts_body (xs : Args.den ref08_TextsS.ps) (Q : Res.den ref08_TextsS.rs → Prop) : bodyX (envX ref08_TextsB 0 Try.f9.ntmps) Try.f9.results.toList ref08_TextsS.rs (bodyOf Try.f9) (.seq .none (.seq .none (.seq (.seq .none (.block (.loop ⟨[(5, .dat I)], [], 0⟩ (.seq .none (.seq (.block (.seq (.order [0, 1, 2, 3, 4, 5, 6, 7, 8]) .none)) .none))))) .none))) (argsAV ref08_TextsS.ps xs) Q = ref08_TextsS.F xs Q := by
  kernel_rfl

def cmp_Or_int (vals : (Ty.slice I).den) (Q : Res.den [I] → Prop) : Prop :=
  LoopP (fun (X2 : Shape.den ⟨[(8, .dat I)], [], 0⟩ → Prop) (x1 : Shape.den ⟨[(8, .dat I)], [], 0⟩) =>
    bif ltI x1.1.1 (List.length vals : Int) then
      In x1.1.1 (List.length vals) ∧
      bif neI (rd (e := I) vals x1.1.1) (0 : Int) then
        Q (rd (e := I) vals x1.1.1)
      else
        X2 ((IntKind.i64.wrap (x1.1.1 + (1 : Int)), ()), (()))
    else
      Q (0 : Int)
  ) (((0 : Int), ()), (()))
def cmp_Or_intS : FnSpec := ⟨[Ty.slice I], [I], fun xs Q => cmp_Or_int xs.1 Q⟩
noncomputable def cmp_Or_intB : Book := { P := Try.prog, ty := tys, eqv := eqvs, fn := fun | _ => none, sp := fun | _ => none, fr := fun | _ => none, inl := fun f av s => match f, s.L.length, av with | _, _, _ => none }
theorem cmp_Or_int_body (xs : Args.den cmp_Or_intS.ps) (Q : Res.den cmp_Or_intS.rs → Prop) : bodyX (envX cmp_Or_intB 0 Try.f40.ntmps) Try.f40.results.toList cmp_Or_intS.rs (bodyOf Try.f40) (.seq .none (.seq .none (.seq (.seq .none (.block (.loop ⟨[(8, .dat I)], [], 0⟩ .none))) .none))) (argsAV cmp_Or_intS.ps xs) Q = cmp_Or_intS.F xs Q := by
  kernel_rfl

def cmp_isNaN_int (x : I.den) (Q : Res.den [Ty.bool] → Prop) : Prop :=
  Q (neI x x)
def cmp_isNaN_intS : FnSpec := ⟨[I], [Ty.bool], fun xs Q => cmp_isNaN_int xs.1 Q⟩
noncomputable def cmp_isNaN_intB : Book := { P := Try.prog, ty := tys, eqv := eqvs, fn := fun | _ => none, sp := fun | _ => none, fr := fun | _ => none, inl := fun f av s => match f, s.L.length, av with | _, _, _ => none }
theorem cmp_isNaN_int_body (xs : Args.den cmp_isNaN_intS.ps) (Q : Res.den cmp_isNaN_intS.rs → Prop) : bodyX (envX cmp_isNaN_intB 0 Try.f56.ntmps) Try.f56.results.toList cmp_isNaN_intS.rs (bodyOf Try.f56) .none (argsAV cmp_isNaN_intS.ps xs) Q = cmp_isNaN_intS.F xs Q := by
  kernel_rfl

def cmp_Compare_int (x : I.den) (y : I.den) (Q : Res.den [I] → Prop) : Prop :=
  cmp_isNaN_int x fun r1 =>
  cmp_isNaN_int y fun r2 =>
  bif r1 then
    bif r2 then
      Q (0 : Int)
    else
      Q (-1 : Int)
  else
    bif r2 then
      Q (1 : Int)
    else
      bif ltI x y then
        Q (-1 : Int)
      else
        bif gtI x y then
          Q (1 : Int)
        else
          Q (0 : Int)
def cmp_Compare_intS : FnSpec := ⟨[I, I], [I], fun xs Q => cmp_Compare_int xs.1 xs.2.1 Q⟩
noncomputable def cmp_Compare_intB : Book := { P := Try.prog, ty := tys, eqv := eqvs, fn := fun | 56 => some cmp_isNaN_intS | _ => none, sp := fun | _ => none, fr := fun | _ => none, inl := fun f av s => match f, s.L.length, av with | _, _, _ => none }
theorem cmp_Compare_int_body (xs : Args.den cmp_Compare_intS.ps) (Q : Res.den cmp_Compare_intS.rs → Prop) : bodyX (envX cmp_Compare_intB 0 Try.f41.ntmps) Try.f41.results.toList cmp_Compare_intS.rs (bodyOf Try.f41) .none (argsAV cmp_Compare_intS.ps xs) Q = cmp_Compare_intS.F xs Q := by
  kernel_rfl

def ops_Less (a : t43.den) (b : t43.den) (Q : Res.den [Ty.bool] → Prop) : Prop :=
  cmp_Compare_int a.1.1 b.1.1 fun r1 =>
  cmp_Compare_int a.1.2 b.1.2 fun r2 =>
  cmp_Compare_int a.2 b.2 fun r3 =>
  cmp_Or_int ([r1, r2, r3]) fun r4 =>
  Q (ltI r4 (0 : Int))
def ops_LessS : FnSpec := ⟨[t43, t43], [Ty.bool], fun xs Q => ops_Less xs.1 xs.2.1 Q⟩
noncomputable def ops_LessB : Book := { P := Try.prog, ty := tys, eqv := eqvs, fn := fun | 40 => some cmp_Or_intS | 41 => some cmp_Compare_intS | _ => none, sp := fun | _ => none, fr := fun | _ => none, inl := fun f av s => match f, s.L.length, av with | _, _, _ => none }
theorem ops_Less_body (xs : Args.den ops_LessS.ps) (Q : Res.den ops_LessS.rs → Prop) : bodyX (envX ops_LessB 0 Try.f33.ntmps) Try.f33.results.toList ops_LessS.rs (bodyOf Try.f33) (.seq .none (.seq (.order [0, 1, 2, 3, 4, 5, 7, 8, 9, 10, 11, 12, 14, 15, 16, 17, 6, 13, 18, 19, 20, 21, 22]) .none)) (argsAV ops_LessS.ps xs) Q = ops_LessS.F xs Q := by
  kernel_rfl

def orset_rising (l : (Ty.slice t43).den) (Q : Res.den [Ty.bool] → Prop) : Prop :=
  LoopP (fun (X2 : Shape.den ⟨[(7, .dat I)], [], 0⟩ → Prop) (x1 : Shape.den ⟨[(7, .dat I)], [], 0⟩) =>
    bif ltI x1.1.1 (List.length l : Int) then
      In x1.1.1 (List.length l) ∧
      bif ltI (rd (e := t43) l x1.1.1).2 (1 : Int) then
        Q false
      else
        bif gtI x1.1.1 (0 : Int) then
          In (IntKind.i64.wrap (x1.1.1 - (1 : Int))) (List.length l) ∧
          ops_Less (rd (e := t43) l (IntKind.i64.wrap (x1.1.1 - (1 : Int)))) (rd (e := t43) l x1.1.1) fun r3 =>
          bif !r3 then
            Q false
          else
            X2 ((IntKind.i64.wrap (x1.1.1 + (1 : Int)), ()), (()))
        else
          X2 ((IntKind.i64.wrap (x1.1.1 + (1 : Int)), ()), (()))
    else
      Q true
  ) (((0 : Int), ()), (()))
def orset_risingS : FnSpec := ⟨[Ty.slice t43], [Ty.bool], fun xs Q => orset_rising xs.1 Q⟩
noncomputable def orset_risingB : Book := { P := Try.prog, ty := tys, eqv := eqvs, fn := fun | 33 => some ops_LessS | _ => none, sp := fun | _ => none, fr := fun | _ => none, inl := fun f av s => match f, s.L.length, av with | _, _, _ => none }
theorem orset_rising_body (xs : Args.den orset_risingS.ps) (Q : Res.den orset_risingS.rs → Prop) : bodyX (envX orset_risingB 0 Try.f28.ntmps) Try.f28.results.toList orset_risingS.rs (bodyOf Try.f28) (.seq .none (.seq (.seq .none (.block (.loop ⟨[(7, .dat I)], [], 0⟩ (.seq .none (.seq .none (.seq (.block (.seq .none (.seq (.order [0, 1, 2, 3, 4, 5, 6, 7, 8, 9, 10, 11, 12, 13, 14, 15, 16]) .none))) .none)))))) .none)) (argsAV orset_risingS.ps xs) Q = orset_risingS.F xs Q := by
  kernel_rfl

def orset_Check (c : t26.den) (Q : Res.den [Ty.bool] → Prop) : Prop :=
  bif neI c.1 (4 : Int) then
    Q false
  else
    bif neI c.2.1 (0 : Int) then
      Q false
    else
      bif gtI (List.length c.2.2.1 : Int) (0 : Int) then
        Q false
      else
        bif gtI (List.length c.2.2.2.1 : Int) (0 : Int) then
          Q false
        else
          bif gtI (List.length c.2.2.2.2.2 : Int) (0 : Int) then
            Q false
          else
            LoopP (fun (X2 : Shape.den ⟨[(35, .dat I)], [], 1⟩ → Prop) (x1 : Shape.den ⟨[(35, .dat I)], [], 1⟩) =>
              bif ltI x1.1.1 (List.length c.2.2.2.2.1 : Int) then
                In x1.1.1 (List.length c.2.2.2.2.1) ∧
                (fun (J4 : Shape.den ⟨[(5, .dat Ty.bool)], [], 2⟩ → Prop) =>
                  bif (rd (e := t40) c.2.2.2.2.1 x1.1.1).2.1 then
                    J4 ((true, ()), (()))
                  else
                    J4 ((gtI (List.length (rd (e := t40) c.2.2.2.2.1 x1.1.1).2.2 : Int) (0 : Int), ()), (()))
                ) fun (x3 : Shape.den ⟨[(5, .dat Ty.bool)], [], 2⟩) =>
                bif !x3.1.1 then
                  Q false
                else
                  bif gtI (ByteArray.size (rd (e := t40) c.2.2.2.2.1 x1.1.1).1 : Int) (64 : Int) then
                    Q false
                  else
                    orset_rising (rd (e := t40) c.2.2.2.2.1 x1.1.1).2.2 fun r5 =>
                    bif !r5 then
                      Q false
                    else
                      bif gtI x1.1.1 (0 : Int) then
                        In (IntKind.i64.wrap (x1.1.1 - (1 : Int))) (List.length c.2.2.2.2.1) ∧
                        bif leS (rd (e := t40) c.2.2.2.2.1 x1.1.1).1 (rd (e := t40) c.2.2.2.2.1 (IntKind.i64.wrap (x1.1.1 - (1 : Int)))).1 then
                          Q false
                        else
                          X2 ((IntKind.i64.wrap (x1.1.1 + (1 : Int)), ()), (()))
                      else
                        X2 ((IntKind.i64.wrap (x1.1.1 + (1 : Int)), ()), (()))
              else
                Q true
            ) (((0 : Int), ()), (()))
def orset_CheckS : FnSpec := ⟨[t26], [Ty.bool], fun xs Q => orset_Check xs.1 Q⟩
noncomputable def orset_CheckB : Book := { P := Try.prog, ty := tys, eqv := eqvs, fn := fun | 28 => some orset_risingS | _ => none, sp := fun | _ => none, fr := fun | _ => none, inl := fun f av s => match f, s.L.length, av with | _, _, _ => none }
theorem orset_Check_body (xs : Args.den orset_CheckS.ps) (Q : Res.den orset_CheckS.rs → Prop) : bodyX (envX orset_CheckB 0 Try.f16.ntmps) Try.f16.results.toList orset_CheckS.rs (bodyOf Try.f16) (.seq .none (.seq .none (.seq (.seq .none (.block (.loop ⟨[(35, .dat I)], [], 1⟩ (.seq .none (.seq .none (.seq (.block (.seq .none (.join ⟨[(5, .dat Ty.bool)], [], 2⟩ .none (.seq (.order [0, 1, 2, 3, 4, 5, 6, 7, 8, 9, 10, 11, 12, 13, 14, 15, 16, 17, 18, 19, 20, 21, 22, 23, 24, 25, 26, 27, 28, 29]) .none)))) .none)))))) .none))) (argsAV orset_CheckS.ps xs) Q = orset_CheckS.F xs Q := by
  kernel_rfl

def orset_Read (c : t26.den) (Q : Res.den [t47] → Prop) : Prop :=
  orset_Check c fun r1 =>
  bif !r1 then
    Q ((0 : Int), ((0 : Int), (([] : List Ty.str.den), ([] : List Ty.unit.den))))
  else
    LoopP (fun (X5 : Shape.den ⟨[(14, .dat I)], [(2, .cells [.dat I, .dat I, .own 3 1 Ty.str, .dat (Ty.slice Ty.unit)]), (3, .row 1 9 Ty.str)], 4⟩ → Prop) (x4 : Shape.den ⟨[(14, .dat I)], [(2, .cells [.dat I, .dat I, .own 3 1 Ty.str, .dat (Ty.slice Ty.unit)]), (3, .row 1 9 Ty.str)], 4⟩) =>
      bif ltI x4.1.1 (List.length c.2.2.2.2.1 : Int) then
        In x4.1.1 (List.length c.2.2.2.2.1) ∧
        List.length x4.2.2.1 + List.length ([(rd (e := t40) c.2.2.2.2.1 x4.1.1).1]) ≤ maxRow ∧
        X5 ((IntKind.i64.wrap (x4.1.1 + (1 : Int)), ()), ((x4.2.1.1, x4.2.1.2.1, (), x4.2.1.2.2.2.1, ()), x4.2.2.1 ++ ([(rd (e := t40) c.2.2.2.2.1 x4.1.1).1]), ()))
      else
        Q (x4.2.1.1, (x4.2.1.2.1, (x4.2.2.1, x4.2.1.2.2.2.1)))
    ) (((0 : Int), ()), (((4 : Int), (0 : Int), (), ([] : List Ty.unit.den), ()), ([] : List Ty.str.den), ()))
def orset_ReadS : FnSpec := ⟨[t26], [t47], fun xs Q => orset_Read xs.1 Q⟩
noncomputable def orset_ReadB : Book := { P := Try.prog, ty := tys, eqv := eqvs, fn := fun | 16 => some orset_CheckS | _ => none, sp := fun | _ => none, fr := fun | _ => none, inl := fun f av s => match f, s.L.length, av with | _, _, _ => none }
theorem orset_Read_body (xs : Args.den orset_ReadS.ps) (Q : Res.den orset_ReadS.rs → Prop) : bodyX (envX orset_ReadB 0 Try.f10.ntmps) Try.f10.results.toList orset_ReadS.rs (bodyOf Try.f10) (.seq .none (.seq .none (.seq .none (.seq (.seq .none (.block (.loopU [(2, 2, 9, Ty.str)] ⟨[(14, .dat I)], [(2, .cells [.dat I, .dat I, .own 3 1 Ty.str, .dat (Ty.slice Ty.unit)]), (3, .row 1 9 Ty.str)], 4⟩ .none))) .none)))) (argsAV orset_ReadS.ps xs) Q = orset_ReadS.F xs Q := by
  kernel_rfl

def orset_may (c : t26.den) (i : I.den) (s : Ty.str.den) (Q : Res.den [Ty.bool] → Prop) : Prop :=
  bif geI i (1 : Int) then
    bif leI (ByteArray.size s : Int) (64 : Int) then
      orset_Check c fun r1 =>
      Q r1
    else
      Q false
  else
    Q false
def orset_mayS : FnSpec := ⟨[t26, I, Ty.str], [Ty.bool], fun xs Q => orset_may xs.1 xs.2.1 xs.2.2.1 Q⟩
noncomputable def orset_mayB : Book := { P := Try.prog, ty := tys, eqv := eqvs, fn := fun | 16 => some orset_CheckS | _ => none, sp := fun | _ => none, fr := fun | _ => none, inl := fun f av s => match f, s.L.length, av with | _, _, _ => none }
theorem orset_may_body (xs : Args.den orset_mayS.ps) (Q : Res.den orset_mayS.rs → Prop) : bodyX (envX orset_mayB 0 Try.f18.ntmps) Try.f18.results.toList orset_mayS.rs (bodyOf Try.f18) .none (argsAV orset_mayS.ps xs) Q = orset_mayS.F xs Q := by
  kernel_rfl

def orset_opened (c : t26.den) (Q : OK.den (.map Ty.str t40) → Prop) : Prop :=
  LoopP (fun (X4 : Shape.den ⟨[(10, .dat I)], [(1, .map Ty.str t40)], 2⟩ → Prop) (x3 : Shape.den ⟨[(10, .dat I)], [(1, .map Ty.str t40)], 2⟩) =>
    bif ltI x3.1.1 (List.length c.2.2.2.2.1 : Int) then
      In x3.1.1 (List.length c.2.2.2.2.1) ∧
      X4 ((IntKind.i64.wrap (x3.1.1 + (1 : Int)), ()), (mput Ty.str x3.2.1 (rd (e := t40) c.2.2.2.2.1 x3.1.1).1 (rd (e := t40) c.2.2.2.2.1 x3.1.1), ()))
    else
      Q x3.2.1
  ) (((0 : Int), ()), ([], ()))
def orset_openedS : FreshSpec := ⟨[t26], .map Ty.str t40, fun xs Q => orset_opened xs.1 Q⟩
noncomputable def orset_openedB : Book := { P := Try.prog, ty := tys, eqv := eqvs, fn := fun | _ => none, sp := fun | _ => none, fr := fun | _ => none, inl := fun f av s => match f, s.L.length, av with | _, _, _ => none }
theorem orset_opened_body (xs : Args.den orset_openedS.ps) (Q : OK.den orset_openedS.k → Prop) : bodyF (envX orset_openedB 0 Try.f19.ntmps) Try.f19.results.toList orset_openedS.k (bodyOf Try.f19) (.seq .none (.seq .none (.seq (.seq .none (.block (.loop ⟨[(10, .dat I)], [(1, .map Ty.str t40)], 2⟩ .none))) .none))) (argsAV orset_openedS.ps xs) Q = orset_openedS.F xs Q := by
  kernel_rfl

end Go.Proofs.Ytodjomdnlcledaa.X
