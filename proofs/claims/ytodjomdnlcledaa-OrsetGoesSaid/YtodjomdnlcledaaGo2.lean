/- Functions of the seat as plain Lean. -/
import Derived.Test.YtodjomdnlcledaaGo1
import Derived.KernelRfl
namespace Go.Proofs.Ytodjomdnlcledaa.X
open Go Go.RowKit
set_option linter.unusedVariables false
set_option linter.unusedSimpArgs false
def vec_peer (p : I.den) (Q : Res.den [Ty.bool] → Prop) : Prop :=
  bif geI p (1 : Int) then
    Q (leI p (12 : Int))
  else
    Q false
def vec_peerS : FnSpec := ⟨[I], [Ty.bool], fun xs Q => vec_peer xs.1 Q⟩
noncomputable def vec_peerB : Book := { P := Try.prog, ty := tys, eqv := eqvs, fn := fun | _ => none, sp := fun | _ => none, fr := fun | _ => none, inl := fun f av s => match f, s.L.length, av with | _, _, _ => none }
theorem vec_peer_body (xs : Args.den vec_peerS.ps) (Q : Res.den vec_peerS.rs → Prop) : bodyX (envX vec_peerB 0 Try.f37.ntmps) Try.f37.results.toList vec_peerS.rs (bodyOf Try.f37) .none (argsAV vec_peerS.ps xs) Q = vec_peerS.F xs Q := by
  kernel_rfl

def vec_Has (v : t30.den) (d : t28.den) (Q : Res.den [Ty.bool] → Prop) : Prop :=
  vec_peer d.1 fun r1 =>
  bif r1 then
    bif geI d.2 (1 : Int) then
      In d.1 13 ∧
      Q (geI (List.getD v (Int.toNat d.1) 0) d.2)
    else
      Q false
  else
    Q false
def vec_HasS : FnSpec := ⟨[t30, t28], [Ty.bool], fun xs Q => vec_Has xs.1 xs.2.1 Q⟩
noncomputable def vec_HasB : Book := { P := Try.prog, ty := tys, eqv := eqvs, fn := fun | 37 => some vec_peerS | _ => none, sp := fun | _ => none, fr := fun | _ => none, inl := fun f av s => match f, s.L.length, av with | _, _, _ => none }
theorem vec_Has_body (xs : Args.den vec_HasS.ps) (Q : Res.den vec_HasS.rs → Prop) : bodyX (envX vec_HasB 0 Try.f27.ntmps) Try.f27.results.toList vec_HasS.rs (bodyOf Try.f27) (.seq .none (.seq (.order [0, 1, 2, 3, 4, 5, 6, 7, 8, 9, 10, 11, 12, 13, 14, 15, 16, 17]) .none)) (argsAV vec_HasS.ps xs) Q = vec_HasS.F xs Q := by
  kernel_rfl

def ops_Before (m : t43.den) (t : t33.den) (index : I.den) (Q : Res.den [Ty.bool] → Prop) : Prop :=
  bif geI m.2 (1 : Int) then
    vec_Has t.2.1 m.1 fun r1 =>
    bif r1 then
      Q true
    else
      bif eqD t28 m.1 t.1 then
        Q (ltI m.2 index)
      else
        Q false
  else
    Q false
def ops_BeforeS : FnSpec := ⟨[t43, t33, I], [Ty.bool], fun xs Q => ops_Before xs.1 xs.2.1 xs.2.2.1 Q⟩
noncomputable def ops_BeforeB : Book := { P := Try.prog, ty := tys, eqv := eqvs, fn := fun | 27 => some vec_HasS | _ => none, sp := fun | _ => none, fr := fun | _ => none, inl := fun f av s => match f, s.L.length, av with | _, _, _ => none }
theorem ops_Before_body (xs : Args.den ops_BeforeS.ps) (Q : Res.den ops_BeforeS.rs → Prop) : bodyX (envX ops_BeforeB 0 Try.f31.ntmps) Try.f31.results.toList ops_BeforeS.rs (bodyOf Try.f31) .none (argsAV ops_BeforeS.ps xs) Q = ops_BeforeS.F xs Q := by
  kernel_rfl

def slices_Clone_api_Mark_api_Mark (s : (Ty.slice t43).den) (Q : OK.den (.row 0 44 t43) → Prop) : Prop :=
  ∀ b1 : Bool,
  (b1 = true → s = []) →
  bif b1 then
    Q ([] : List t43.den)
  else
    List.length ([] : List t43.den) + List.length s ≤ maxRow ∧
    Q (([] : List t43.den) ++ s)
def slices_Clone_api_Mark_api_MarkS : FreshSpec := ⟨[Ty.slice t43], .row 0 44 t43, fun xs Q => slices_Clone_api_Mark_api_Mark xs.1 Q⟩
noncomputable def slices_Clone_api_Mark_api_MarkB : Book := { P := Try.prog, ty := tys, eqv := eqvs, fn := fun | _ => none, sp := fun | _ => none, fr := fun | _ => none, inl := fun f av s => match f, s.L.length, av with | _, _, _ => none }
theorem slices_Clone_api_Mark_api_Mark_body (xs : Args.den slices_Clone_api_Mark_api_MarkS.ps) (Q : OK.den slices_Clone_api_Mark_api_MarkS.k → Prop) : bodyF (envX slices_Clone_api_Mark_api_MarkB 0 Try.f35.ntmps) Try.f35.results.toList slices_Clone_api_Mark_api_MarkS.k (bodyOf Try.f35) .none (argsAV slices_Clone_api_Mark_api_MarkS.ps xs) Q = slices_Clone_api_Mark_api_MarkS.F xs Q := by
  kernel_rfl

def orset_Del (c : t26.den) (t : t33.den) (i : I.den) (s : Ty.str.den) (Q : Res.den [t26] → Prop) : Prop :=
  orset_may c i s fun r1 =>
  bif !r1 then
    Q c
  else
    orset_opened c fun r2 =>
    (fun (J18 : Shape.den ⟨[], [(3, .map Ty.str t40)], 4⟩ → Prop) =>
      bif !(Option.isSome (mget Ty.str r2 s)) then
        J18 ((()), (r2, ()))
      else
        (fun (J16 : Shape.den ⟨[], [(6, .cells [.dat Ty.str, .dat Ty.bool, .dat (Ty.slice t43)])], 7⟩ → Prop) =>
          slices_Clone_api_Mark_api_Mark (Option.getD (mget Ty.str r2 s) (ByteArray.empty, (false, ([] : List t43.den)))).2.2 fun r3 =>
          (fun (J8 : Shape.den ⟨[(5, .dat I)], [], 10⟩ → Prop) =>
            LoopP (fun (X5 : Shape.den ⟨[(8, .dat I)], [], 10⟩ → Prop) (x4 : Shape.den ⟨[(8, .dat I)], [], 10⟩) =>
              bif ltI x4.1.1 (List.length r3 : Int) then
                In x4.1.1 (List.length r3) ∧
                ops_Before (rd (e := t43) r3 x4.1.1) t i fun r6 =>
                bif r6 then
                  J8 ((x4.1.1, ()), (()))
                else
                  X5 ((IntKind.i64.wrap (x4.1.1 + (1 : Int)), ()), (()))
              else
                J8 (((-1 : Int), ()), (()))
            ) (((0 : Int), ()), (()))
          ) fun (x7 : Shape.den ⟨[(5, .dat I)], [], 10⟩) =>
          bif eqI x7.1.1 (-1 : Int) then
            J16 ((()), (((Option.getD (mget Ty.str r2 s) (ByteArray.empty, (false, ([] : List t43.den)))).1, false, r3, ()), ()))
          else
            LoopP (fun (X13 : Shape.den ⟨[(0, .own 8 1 t43), (5, .dat I), (6, .dat I)], [(8, .row 1 44 t43)], 10⟩ → Prop) (x12 : Shape.den ⟨[(0, .own 8 1 t43), (5, .dat I), (6, .dat I)], [(8, .row 1 44 t43)], 10⟩) =>
              bif ltI x12.1.2.2.1 (List.length x12.2.1 : Int) then
                In x12.1.2.2.1 (List.length x12.2.1) ∧
                ops_Before (rd (e := t43) x12.2.1 x12.1.2.2.1) t i fun r14 =>
                bif !r14 then
                  In x12.1.2.1 (List.length x12.2.1) ∧
                  X13 (((), IntKind.i64.wrap (x12.1.2.1 + (1 : Int)), IntKind.i64.wrap (x12.1.2.2.1 + (1 : Int)), ()), (List.set x12.2.1 (Int.toNat x12.1.2.1) (rd (e := t43) x12.2.1 x12.1.2.2.1), ()))
                else
                  X13 (((), x12.1.2.1, IntKind.i64.wrap (x12.1.2.2.1 + (1 : Int)), ()), (x12.2.1, ()))
              else
                In2 x12.1.2.1 (List.length x12.2.1 : Int) (List.length x12.2.1 : Int) ∧
                In2 (0 : Int) x12.1.2.1 (List.length (List.take (Int.toNat x12.1.2.1) x12.2.1 ++ List.replicate (Int.toNat (List.length x12.2.1 : Int) - Int.toNat x12.1.2.1) (((0 : Int), (0 : Int)), (0 : Int)) ++ List.drop (Int.toNat (List.length x12.2.1 : Int)) x12.2.1) : Int) ∧
                J16 ((()), (((Option.getD (mget Ty.str r2 s) (ByteArray.empty, (false, ([] : List t43.den)))).1, false, List.take (Int.toNat x12.1.2.1 - Int.toNat (0 : Int)) (List.drop (Int.toNat (0 : Int)) (List.take (Int.toNat x12.1.2.1) x12.2.1 ++ List.replicate (Int.toNat (List.length x12.2.1 : Int) - Int.toNat x12.1.2.1) (((0 : Int), (0 : Int)), (0 : Int)) ++ List.drop (Int.toNat (List.length x12.2.1 : Int)) x12.2.1)), ()), ()))
            ) (((), x7.1.1, IntKind.i64.wrap (x7.1.1 + (1 : Int)), ()), (r3, ()))
        ) fun (x15 : Shape.den ⟨[], [(6, .cells [.dat Ty.str, .dat Ty.bool, .dat (Ty.slice t43)])], 7⟩) =>
        bif eqI (List.length x15.2.1.2.2.1 : Int) (0 : Int) then
          J18 ((()), (mdel Ty.str r2 s, ()))
        else
          J18 ((()), (mput Ty.str r2 s (x15.2.1.1, (x15.2.1.2.1, x15.2.1.2.2.1)), ()))
    ) fun (x17 : Shape.den ⟨[], [(3, .map Ty.str t40)], 4⟩) =>
    LoopP (fun (X23 : Shape.den ⟨[(5, .own 6 2 Ty.str)], [(6, .row 2 9 Ty.str), (7, .iter 3 Ty.str t40)], 8⟩ → Prop) (x22 : Shape.den ⟨[(5, .own 6 2 Ty.str)], [(6, .row 2 9 Ty.str), (7, .iter 3 Ty.str t40)], 8⟩) =>
      bif List.isEmpty x22.2.2.1 then
        List.length x22.2.1 ≤ maxRow ∧
        LoopP (fun (X28 : Shape.den ⟨[(24, .dat I)], [(4, .cells [.dat I, .dat I, .dat (Ty.slice t125), .dat (Ty.slice t52), .own 8 1 t40, .dat (Ty.slice t54)]), (8, .row 1 41 t40)], 9⟩ → Prop) (x27 : Shape.den ⟨[(24, .dat I)], [(4, .cells [.dat I, .dat I, .dat (Ty.slice t125), .dat (Ty.slice t52), .own 8 1 t40, .dat (Ty.slice t54)]), (8, .row 1 41 t40)], 9⟩) =>
          bif ltI x27.1.1 (List.length (sortS x22.2.1) : Int) then
            In x27.1.1 (List.length (sortS x22.2.1)) ∧
            List.length x27.2.2.1 + List.length ([Option.getD (mget Ty.str x17.2.1 (rd (e := Ty.str) (sortS x22.2.1) x27.1.1)) (ByteArray.empty, (false, ([] : List t43.den)))]) ≤ maxRow ∧
            X28 ((IntKind.i64.wrap (x27.1.1 + (1 : Int)), ()), ((x27.2.1.1, x27.2.1.2.1, x27.2.1.2.2.1, x27.2.1.2.2.2.1, (), x27.2.1.2.2.2.2.2.1, ()), x27.2.2.1 ++ ([Option.getD (mget Ty.str x17.2.1 (rd (e := Ty.str) (sortS x22.2.1) x27.1.1)) (ByteArray.empty, (false, ([] : List t43.den)))]), ()))
          else
            Q (x27.2.1.1, (x27.2.1.2.1, (x27.2.1.2.2.1, (x27.2.1.2.2.2.1, (x27.2.2.1, x27.2.1.2.2.2.2.2.1)))))
        ) (((0 : Int), ()), ((c.1, c.2.1, c.2.2.1, c.2.2.2.1, (), c.2.2.2.2.2, ()), ([] : List t40.den), ()))
      else
        ∀ i24 : Nat,
        i24 < List.length x22.2.2.1 →
        List.length x22.2.1 + List.length ([(List.getD x22.2.2.1 i24 (ByteArray.empty, (ByteArray.empty, (false, ([] : List t43.den))))).1]) ≤ maxRow ∧
        X23 (((), ()), (x22.2.1 ++ ([(List.getD x22.2.2.1 i24 (ByteArray.empty, (ByteArray.empty, (false, ([] : List t43.den))))).1]), List.eraseIdx x22.2.2.1 i24, ()))
    ) (((), ()), (([] : List Ty.str.den), x17.2.1, ()))
def orset_DelS : FnSpec := ⟨[t26, t33, I, Ty.str], [t26], fun xs Q => orset_Del xs.1 xs.2.1 xs.2.2.1 xs.2.2.2.1 Q⟩
noncomputable def orset_DelB : Book := { P := Try.prog, ty := tys, eqv := eqvs, fn := fun | 18 => some orset_mayS | 31 => some ops_BeforeS | _ => none, sp := fun | 32 => some (sortX .str sortS) | _ => none, fr := fun | 19 => some orset_openedS | 35 => some slices_Clone_api_Mark_api_MarkS | _ => none, inl := fun f av s => match f, s.L.length, av with
  | 30, 10, [_, .ptr 4 _, .ptr 5 _] => some ⟨bodyOf Try.f30, .none, Try.f30.results.toList, Try.f30.ntmps, none⟩
  | 44, 10, [.own 8 0 _, _] => some ⟨bodyOf Try.f44, (.seq .none (.seq (.seq .none (.block (.loop ⟨[(8, .dat I)], [], 10⟩ .none))) .none)), Try.f44.results.toList, Try.f44.ntmps, none⟩
  | 30, 11, [_, .ptr 4 _, .ptr 5 _] => some ⟨bodyOf Try.f30, .none, Try.f30.results.toList, Try.f30.ntmps, none⟩
  | 36, 9, [.own 8 0 _, _] => some ⟨bodyOf Try.f36, (.seq .none (.join ⟨[(5, .dat I)], [], 10⟩ .none (.seq .none (.seq (.seq .none (.block (.loop ⟨[(0, .own 8 1 t43), (5, .dat I), (6, .dat I)], [(8, .row 1 44 t43)], 10⟩ .none))) .none)))), Try.f36.results.toList, Try.f36.ntmps, none⟩
  | 25, 7, [_, _] => some ⟨bodyOf Try.f25, .none, Try.f25.results.toList, Try.f25.ntmps, some (Ty.slice t43)⟩
  | 20, 4, [.mp 3, _, _, _] => some ⟨bodyOf Try.f20, (.seq .none (.seq .none (.seq .none (.seq .none (.join ⟨[], [(6, .cells [.dat Ty.str, .dat Ty.bool, .dat (Ty.slice t43)])], 7⟩ .none .none))))), Try.f20.results.toList, Try.f20.ntmps, none⟩
  | 21, 4, [_, .mp 3] => some ⟨bodyOf Try.f21, (.seq .none (.seq .none (.seq (.seq .none (.block (.loop ⟨[(5, .own 6 2 Ty.str)], [(6, .row 2 9 Ty.str), (7, .iter 3 Ty.str t40)], 8⟩ .none))) (.seq .none (.seq .none (.seq (.seq .none (.block (.loopU [(4, 4, 41, t40)] ⟨[(24, .dat I)], [(4, .cells [.dat I, .dat I, .dat (Ty.slice t125), .dat (Ty.slice t52), .own 8 1 t40, .dat (Ty.slice t54)]), (8, .row 1 41 t40)], 9⟩ .none))) .none)))))), Try.f21.results.toList, Try.f21.ntmps, none⟩ | _, _, _ => none }
theorem orset_Del_body (xs : Args.den orset_DelS.ps) (Q : Res.den orset_DelS.rs → Prop) : bodyX (envX orset_DelB 5 Try.f11.ntmps) Try.f11.results.toList orset_DelS.rs (bodyOf Try.f11) (.seq .none (.seq .none (.seq .none (.join ⟨[], [(3, .map Ty.str t40)], 4⟩ .none .none)))) (argsAV orset_DelS.ps xs) Q = orset_DelS.F xs Q := by
  kernel_rfl

def orset_with (l : (Ty.slice t43).den) (m : t43.den) (Q : Res.den [Ty.slice t43] → Prop) : Prop :=
  (fun (J5 : Shape.den ⟨[(5, .dat I)], [], 2⟩ → Prop) =>
    LoopP (fun (X2 : Shape.den ⟨[(5, .dat I)], [], 2⟩ → Prop) (x1 : Shape.den ⟨[(5, .dat I)], [], 2⟩) =>
      bif ltI x1.1.1 (List.length l : Int) then
        In x1.1.1 (List.length l) ∧
        ops_Less (rd (e := t43) l x1.1.1) m fun r3 =>
        bif r3 then
          X2 ((IntKind.i64.wrap (x1.1.1 + (1 : Int)), ()), (()))
        else
          J5 ((x1.1.1, ()), (()))
      else
        J5 ((x1.1.1, ()), (()))
    ) (((0 : Int), ()), (()))
  ) fun (x4 : Shape.den ⟨[(5, .dat I)], [], 2⟩) =>
  (fun (J7 : Shape.den ⟨[], [], 2⟩ → Prop) =>
    bif ltI x4.1.1 (List.length l : Int) then
      In x4.1.1 (List.length l) ∧
      bif eqD t43 (rd (e := t43) l x4.1.1) m then
        Q l
      else
        J7 ((()), (()))
    else
      J7 ((()), (()))
  ) fun (x6 : Shape.den ⟨[], [], 2⟩) =>
  (
    (
      slices_Clone_api_Mark_api_Mark l fun r8 =>
      In2 x4.1.1 (List.length r8 : Int) (List.length r8 : Int) ∧
      bif eqI (List.length ([m]) : Int) (0 : Int) then
        Q r8
      else
        bif eqI x4.1.1 (List.length r8 : Int) then
          List.length r8 + List.length ([m]) ≤ maxRow ∧
          Q (r8 ++ ([m]))
        else
          False
    ) ∧
    (
      slices_Clone_api_Mark_api_Mark l fun r9 =>
      In2 x4.1.1 (List.length r9 : Int) (List.length r9 : Int) ∧
      bif eqI (List.length ([m]) : Int) (0 : Int) then
        Q r9
      else
        bif eqI x4.1.1 (List.length r9 : Int) then
          List.length r9 + List.length ([m]) ≤ maxRow ∧
          Q (r9 ++ ([m]))
        else
          False
    ) ∧
    slices_Clone_api_Mark_api_Mark l fun r10 =>
    In2 x4.1.1 (List.length r10 : Int) (List.length r10 : Int) ∧
    bif eqI (List.length ([m]) : Int) (0 : Int) then
      Q r10
    else
      bif eqI x4.1.1 (List.length r10 : Int) then
        List.length r10 + List.length ([m]) ≤ maxRow ∧
        Q (r10 ++ ([m]))
      else
        False
  ) ∧
  (
    (
      slices_Clone_api_Mark_api_Mark l fun r11 =>
      In2 x4.1.1 (List.length r11 : Int) (List.length r11 : Int) ∧
      bif eqI (List.length ([m]) : Int) (0 : Int) then
        Q r11
      else
        bif eqI x4.1.1 (List.length r11 : Int) then
          List.length r11 + List.length ([m]) ≤ maxRow ∧
          Q (r11 ++ ([m]))
        else
          False
    ) ∧
    slices_Clone_api_Mark_api_Mark l fun r12 =>
    In2 x4.1.1 (List.length r12 : Int) (List.length r12 : Int) ∧
    bif eqI (List.length ([m]) : Int) (0 : Int) then
      Q r12
    else
      bif eqI x4.1.1 (List.length r12 : Int) then
        List.length r12 + List.length ([m]) ≤ maxRow ∧
        Q (r12 ++ ([m]))
      else
        False
  ) ∧
  slices_Clone_api_Mark_api_Mark l fun r13 =>
  In2 x4.1.1 (List.length r13 : Int) (List.length r13 : Int) ∧
  bif eqI (List.length ([m]) : Int) (0 : Int) then
    Q r13
  else
    bif eqI x4.1.1 (List.length r13 : Int) then
      List.length r13 + List.length ([m]) ≤ maxRow ∧
      Q (r13 ++ ([m]))
    else
      False
def orset_withS : FnSpec := ⟨[Ty.slice t43, t43], [Ty.slice t43], fun xs Q => orset_with xs.1 xs.2.1 Q⟩
noncomputable def orset_withB : Book := { P := Try.prog, ty := tys, eqv := eqvs, fn := fun | 33 => some ops_LessS | _ => none, sp := fun | _ => none, fr := fun | 35 => some slices_Clone_api_Mark_api_MarkS | _ => none, inl := fun f av s => match f, s.L.length, av with
  | 34, 4, [.own 2 0 _, _, .own 3 0 _] => some ⟨bodyOf Try.f34, .none, Try.f34.results.toList, Try.f34.ntmps, none⟩
  | 34, 4, [.own 3 0 _, _, .own 2 0 _] => some ⟨bodyOf Try.f34, .none, Try.f34.results.toList, Try.f34.ntmps, none⟩ | _, _, _ => none }
theorem orset_with_body (xs : Args.den orset_withS.ps) (Q : Res.den orset_withS.rs → Prop) : bodyX (envX orset_withB 1 Try.f23.ntmps) Try.f23.results.toList orset_withS.rs (bodyOf Try.f23) (.seq .none (.seq .none (.join ⟨[(5, .dat I)], [], 2⟩ (.block (.loop ⟨[(5, .dat I)], [], 2⟩ (.seq (.seq (.order [0, 1, 2, 3, 4, 5, 6, 7, 8, 9, 10, 11]) .none) .none))) (.join ⟨[], [], 2⟩ (.seq (.order [0, 1, 2, 3, 4, 5, 6, 7, 8, 9, 10, 11]) .none) (.seq (.orders (.step 2 (.fork 0 (.fork 1 (.step 3 (.step 4 (.step 5 (.step 6 .done)))) (.step 3 (.fork 1 (.step 4 (.step 5 (.step 6 .done))) (.step 4 (.step 1 (.step 5 (.step 6 .done))))))) (.step 3 (.fork 0 (.fork 1 (.step 4 (.step 5 (.step 6 .done))) (.step 4 (.step 1 (.step 5 (.step 6 .done))))) (.step 4 (.step 0 (.step 1 (.step 5 (.step 6 .done)))))))))) .none))))) (argsAV orset_withS.ps xs) Q = orset_withS.F xs Q := by
  kernel_rfl

def orset_Add (c : t26.den) (t : t33.den) (i : I.den) (s : Ty.str.den) (Q : Res.den [t26] → Prop) : Prop :=
  orset_may c i s fun r1 =>
  bif !r1 then
    Q c
  else
    orset_opened c fun r2 =>
    orset_with (Option.getD (mget Ty.str r2 s) (ByteArray.empty, (false, ([] : List t43.den)))).2.2 (t.1, i) fun r3 =>
    LoopP (fun (X8 : Shape.den ⟨[(5, .own 7 2 Ty.str)], [(7, .row 2 9 Ty.str), (8, .iter 3 Ty.str t40)], 9⟩ → Prop) (x7 : Shape.den ⟨[(5, .own 7 2 Ty.str)], [(7, .row 2 9 Ty.str), (8, .iter 3 Ty.str t40)], 9⟩) =>
      bif List.isEmpty x7.2.2.1 then
        List.length x7.2.1 ≤ maxRow ∧
        LoopP (fun (X13 : Shape.den ⟨[(24, .dat I)], [(5, .cells [.dat I, .dat I, .dat (Ty.slice t125), .dat (Ty.slice t52), .own 9 1 t40, .dat (Ty.slice t54)]), (9, .row 1 41 t40)], 10⟩ → Prop) (x12 : Shape.den ⟨[(24, .dat I)], [(5, .cells [.dat I, .dat I, .dat (Ty.slice t125), .dat (Ty.slice t52), .own 9 1 t40, .dat (Ty.slice t54)]), (9, .row 1 41 t40)], 10⟩) =>
          bif ltI x12.1.1 (List.length (sortS x7.2.1) : Int) then
            In x12.1.1 (List.length (sortS x7.2.1)) ∧
            List.length x12.2.2.1 + List.length ([Option.getD (mget Ty.str (mput Ty.str r2 s (s, ((Option.getD (mget Ty.str r2 s) (ByteArray.empty, (false, ([] : List t43.den)))).2.1, r3))) (rd (e := Ty.str) (sortS x7.2.1) x12.1.1)) (ByteArray.empty, (false, ([] : List t43.den)))]) ≤ maxRow ∧
            X13 ((IntKind.i64.wrap (x12.1.1 + (1 : Int)), ()), ((x12.2.1.1, x12.2.1.2.1, x12.2.1.2.2.1, x12.2.1.2.2.2.1, (), x12.2.1.2.2.2.2.2.1, ()), x12.2.2.1 ++ ([Option.getD (mget Ty.str (mput Ty.str r2 s (s, ((Option.getD (mget Ty.str r2 s) (ByteArray.empty, (false, ([] : List t43.den)))).2.1, r3))) (rd (e := Ty.str) (sortS x7.2.1) x12.1.1)) (ByteArray.empty, (false, ([] : List t43.den)))]), ()))
          else
            Q (x12.2.1.1, (x12.2.1.2.1, (x12.2.1.2.2.1, (x12.2.1.2.2.2.1, (x12.2.2.1, x12.2.1.2.2.2.2.2.1)))))
        ) (((0 : Int), ()), ((c.1, c.2.1, c.2.2.1, c.2.2.2.1, (), c.2.2.2.2.2, ()), ([] : List t40.den), ()))
      else
        ∀ i9 : Nat,
        i9 < List.length x7.2.2.1 →
        List.length x7.2.1 + List.length ([(List.getD x7.2.2.1 i9 (ByteArray.empty, (ByteArray.empty, (false, ([] : List t43.den))))).1]) ≤ maxRow ∧
        X8 (((), ()), (x7.2.1 ++ ([(List.getD x7.2.2.1 i9 (ByteArray.empty, (ByteArray.empty, (false, ([] : List t43.den))))).1]), List.eraseIdx x7.2.2.1 i9, ()))
    ) (((), ()), (([] : List Ty.str.den), mput Ty.str r2 s (s, ((Option.getD (mget Ty.str r2 s) (ByteArray.empty, (false, ([] : List t43.den)))).2.1, r3)), ()))
def orset_AddS : FnSpec := ⟨[t26, t33, I, Ty.str], [t26], fun xs Q => orset_Add xs.1 xs.2.1 xs.2.2.1 xs.2.2.2.1 Q⟩
noncomputable def orset_AddB : Book := { P := Try.prog, ty := tys, eqv := eqvs, fn := fun | 18 => some orset_mayS | 23 => some orset_withS | _ => none, sp := fun | 32 => some (sortX .str sortS) | _ => none, fr := fun | 19 => some orset_openedS | _ => none, inl := fun f av s => match f, s.L.length, av with
  | 21, 5, [_, .mp 3] => some ⟨bodyOf Try.f21, (.seq .none (.seq .none (.seq (.seq .none (.block (.loop ⟨[(5, .own 7 2 Ty.str)], [(7, .row 2 9 Ty.str), (8, .iter 3 Ty.str t40)], 9⟩ .none))) (.seq .none (.seq .none (.seq (.seq .none (.block (.loopU [(5, 4, 41, t40)] ⟨[(24, .dat I)], [(5, .cells [.dat I, .dat I, .dat (Ty.slice t125), .dat (Ty.slice t52), .own 9 1 t40, .dat (Ty.slice t54)]), (9, .row 1 41 t40)], 10⟩ .none))) .none)))))), Try.f21.results.toList, Try.f21.ntmps, none⟩ | _, _, _ => none }
theorem orset_Add_body (xs : Args.den orset_AddS.ps) (Q : Res.den orset_AddS.rs → Prop) : bodyX (envX orset_AddB 1 Try.f13.ntmps) Try.f13.results.toList orset_AddS.rs (bodyOf Try.f13) .none (argsAV orset_AddS.ps xs) Q = orset_AddS.F xs Q := by
  kernel_rfl

def slices_Clone_api_Member_api_Member (s : (Ty.slice t40).den) (Q : OK.den (.row 0 41 t40) → Prop) : Prop :=
  ∀ b1 : Bool,
  (b1 = true → s = []) →
  bif b1 then
    Q ([] : List t40.den)
  else
    List.length ([] : List t40.den) + List.length s ≤ maxRow ∧
    Q (([] : List t40.den) ++ s)
def slices_Clone_api_Member_api_MemberS : FreshSpec := ⟨[Ty.slice t40], .row 0 41 t40, fun xs Q => slices_Clone_api_Member_api_Member xs.1 Q⟩
noncomputable def slices_Clone_api_Member_api_MemberB : Book := { P := Try.prog, ty := tys, eqv := eqvs, fn := fun | _ => none, sp := fun | _ => none, fr := fun | _ => none, inl := fun f av s => match f, s.L.length, av with | _, _, _ => none }
theorem slices_Clone_api_Member_api_Member_body (xs : Args.den slices_Clone_api_Member_api_MemberS.ps) (Q : OK.den slices_Clone_api_Member_api_MemberS.k → Prop) : bodyF (envX slices_Clone_api_Member_api_MemberB 0 Try.f24.ntmps) Try.f24.results.toList slices_Clone_api_Member_api_MemberS.k (bodyOf Try.f24) .none (argsAV slices_Clone_api_Member_api_MemberS.ps xs) Q = slices_Clone_api_Member_api_MemberS.F xs Q := by
  kernel_rfl

end Go.Proofs.Ytodjomdnlcledaa.X
