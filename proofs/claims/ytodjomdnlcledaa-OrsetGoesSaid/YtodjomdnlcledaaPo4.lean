/- The functions of the seat: what they compute, IV: closing a cell, taking marks away. -/
import Derived.Test.YtodjomdnlcledaaPo3
namespace Go.Proofs.Ytodjomdnlcledaa.X
open Go Go.RowKit
set_option linter.unusedSimpArgs false
set_option linter.unusedVariables false

def closeC (c : CellD) (es : ES) : CellD := (c.1, c.2.1, c.2.2.1, c.2.2.2.1, closeL es, c.2.2.2.2.2)

def closedP (c : CellD) (Q : CellD → Prop) (es : ES) : Prop :=
    LoopP (fun (X23 : (Unit × Unit) × List ByteArray × ES × Unit → Prop) (x22 : (Unit × Unit) × List ByteArray × ES × Unit) =>
      bif List.isEmpty x22.2.2.1 then
        List.length x22.2.1 ≤ maxRow ∧
        LoopP (fun (X28 : (Int × Unit) × ((Int × Int × List t125.den × List t52.den × Unit × List t54.den × Unit) × List Memb × Unit) → Prop) (x27 : (Int × Unit) × ((Int × Int × List t125.den × List t52.den × Unit × List t54.den × Unit) × List Memb × Unit)) =>
          bif ltI x27.1.1 (List.length (sortS x22.2.1) : Int) then
            In x27.1.1 (List.length (sortS x22.2.1)) ∧
            List.length x27.2.2.1 + List.length ([Option.getD (mget Ty.str es (rd (e := Ty.str) (sortS x22.2.1) x27.1.1)) (ByteArray.empty, (false, ([] : List t43.den)))]) ≤ maxRow ∧
            X28 ((IntKind.i64.wrap (x27.1.1 + (1 : Int)), ()), ((x27.2.1.1, x27.2.1.2.1, x27.2.1.2.2.1, x27.2.1.2.2.2.1, (), x27.2.1.2.2.2.2.2.1, ()), x27.2.2.1 ++ ([Option.getD (mget Ty.str es (rd (e := Ty.str) (sortS x22.2.1) x27.1.1)) (ByteArray.empty, (false, ([] : List t43.den)))]), ()))
          else
            Q (x27.2.1.1, (x27.2.1.2.1, (x27.2.1.2.2.1, (x27.2.1.2.2.2.1, (x27.2.2.1, x27.2.1.2.2.2.2.2.1)))))
        ) (((0 : Int), ()), ((c.1, c.2.1, c.2.2.1, c.2.2.2.1, (), c.2.2.2.2.2, ()), ([] : List t40.den), ()))
      else
        ∀ i24 : Nat,
        i24 < List.length x22.2.2.1 →
        List.length x22.2.1 + List.length ([(List.getD x22.2.2.1 i24 (ByteArray.empty, (ByteArray.empty, (false, ([] : List t43.den))))).1]) ≤ maxRow ∧
        X23 (((), ()), (x22.2.1 ++ ([(List.getD x22.2.2.1 i24 (ByteArray.empty, (ByteArray.empty, (false, ([] : List t43.den))))).1]), List.eraseIdx x22.2.2.1 i24, ()))
    ) (((), ()), (([] : List Ty.str.den), es, ()))

theorem closed_ok {c : CellD} {es : ES} {Q : CellD → Prop} (hmax : es.length ≤ maxRow) (h : Q (closeC c es)) : closedP c Q es := by
  have hmr : maxRow = 2147483648 := rfl
  have inner : ∀ ks : List ByteArray, ks.Perm (keys es) → List.length ks ≤ maxRow ∧
      LoopP (fun (X28 : (Int × Unit) × ((Int × Int × List t125.den × List t52.den × Unit × List t54.den × Unit) × List Memb × Unit) → Prop) (x27 : (Int × Unit) × ((Int × Int × List t125.den × List t52.den × Unit × List t54.den × Unit) × List Memb × Unit)) =>
          bif ltI x27.1.1 (List.length (sortS ks) : Int) then
            In x27.1.1 (List.length (sortS ks)) ∧
            List.length x27.2.2.1 + List.length ([Option.getD (mget Ty.str es (rd (e := Ty.str) (sortS ks) x27.1.1)) (ByteArray.empty, (false, ([] : List t43.den)))]) ≤ maxRow ∧
            X28 ((IntKind.i64.wrap (x27.1.1 + (1 : Int)), ()), ((x27.2.1.1, x27.2.1.2.1, x27.2.1.2.2.1, x27.2.1.2.2.2.1, (), x27.2.1.2.2.2.2.2.1, ()), x27.2.2.1 ++ ([Option.getD (mget Ty.str es (rd (e := Ty.str) (sortS ks) x27.1.1)) (ByteArray.empty, (false, ([] : List t43.den)))]), ()))
          else
            Q (x27.2.1.1, (x27.2.1.2.1, (x27.2.1.2.2.1, (x27.2.1.2.2.2.1, (x27.2.2.1, x27.2.1.2.2.2.2.2.1)))))
        ) (((0 : Int), ()), ((c.1, c.2.1, c.2.2.1, c.2.2.2.1, (), c.2.2.2.2.2, ()), ([] : List t40.den), ())) := by
    intro ks hp
    have hlen : ks.length = es.length := by rw [hp.length_eq]; simp [keys]
    have hsl := sort_length ks
    refine ⟨by omega, ?_⟩
    refine LoopP.up (fun i (acc : List Memb) => (((i : Int), ()), ((c.1, c.2.1, c.2.2.1, c.2.2.2.1, (), c.2.2.2.2.2, ()), acc, ()))) (sortS ks).length (fun k acc => acc = ((sortS ks).take k).map fun s => (mg es s).getD dM) ?_ ?_ (y := []) rfl
    · intro i acc X hi hI hX
      subst hI
      simp only [wrap_succ (show i < 9223372036854775807 by omega), rd_get (e := Ty.str) (xs := sortS ks) hi]
      refine lt_pos (by omega) ⟨In_nat.2 hi, ?_, hX _ ?_⟩
      · simp only [List.length_map, List.length_take, List.length_cons, List.length_nil]; omega
      · rw [List.take_succ_eq_append_getElem hi, List.map_append]; rfl
    · intro acc X hI
      subst hI
      dsimp only
      refine lt_neg (by omega) ?_
      rw [List.take_length]
      rw [sort_perm hp]
      exact h
  refine collect_ok (kt := Ty.str) (vt := t40) (d := (ByteArray.empty, (ByteArray.empty, (false, ([] : List t43.den))))) hmax (K := _) inner ?_
  intro X ks td h1 h2
  refine cb (fun h => h1 (List.isEmpty_iff.1 h)) fun h i hi => ?_
  exact h2 i hi

/-- slices.DeleteFunc over a copy. -/
def withoutP (l : List Mark) (prog : Mark → (Bool → Prop) → Prop) (J : List Mark → Prop) : Prop :=
    (fun (J8 : (Int × Unit) × Unit → Prop) =>
      LoopP (fun (X5 : (Int × Unit) × Unit → Prop) (x4 : (Int × Unit) × Unit) =>
        bif ltI x4.1.1 (List.length l : Int) then
          In x4.1.1 (List.length l) ∧
          prog (rd (e := t43) l x4.1.1) fun r6 =>
          bif r6 then
            J8 ((x4.1.1, ()), (()))
          else
            X5 ((IntKind.i64.wrap (x4.1.1 + (1 : Int)), ()), (()))
        else
          J8 (((-1 : Int), ()), (()))
      ) (((0 : Int), ()), (()))
    ) fun (x7 : (Int × Unit) × Unit) =>
    bif eqI x7.1.1 (-1 : Int) then
      J l
    else
      LoopP (fun (X13 : (Unit × Int × Int × Unit) × List Mark × Unit → Prop) (x12 : (Unit × Int × Int × Unit) × List Mark × Unit) =>
        bif ltI x12.1.2.2.1 (List.length x12.2.1 : Int) then
          In x12.1.2.2.1 (List.length x12.2.1) ∧
          prog (rd (e := t43) x12.2.1 x12.1.2.2.1) fun r14 =>
          bif !r14 then
            In x12.1.2.1 (List.length x12.2.1) ∧
            X13 (((), IntKind.i64.wrap (x12.1.2.1 + (1 : Int)), IntKind.i64.wrap (x12.1.2.2.1 + (1 : Int)), ()), (List.set x12.2.1 (Int.toNat x12.1.2.1) (rd (e := t43) x12.2.1 x12.1.2.2.1), ()))
          else
            X13 (((), x12.1.2.1, IntKind.i64.wrap (x12.1.2.2.1 + (1 : Int)), ()), (x12.2.1, ()))
        else
          In2 x12.1.2.1 (List.length x12.2.1 : Int) (List.length x12.2.1 : Int) ∧
          In2 (0 : Int) x12.1.2.1 (List.length (List.take (Int.toNat x12.1.2.1) x12.2.1 ++ List.replicate (Int.toNat (List.length x12.2.1 : Int) - Int.toNat x12.1.2.1) (((0 : Int), (0 : Int)), (0 : Int)) ++ List.drop (Int.toNat (List.length x12.2.1 : Int)) x12.2.1) : Int) ∧
          J (List.take (Int.toNat x12.1.2.1 - Int.toNat (0 : Int)) (List.drop (Int.toNat (0 : Int)) (List.take (Int.toNat x12.1.2.1) x12.2.1 ++ List.replicate (Int.toNat (List.length x12.2.1 : Int) - Int.toNat x12.1.2.1) (((0 : Int), (0 : Int)), (0 : Int)) ++ List.drop (Int.toNat (List.length x12.2.1 : Int)) x12.2.1)))
      ) (((), x7.1.1, IntKind.i64.wrap (x7.1.1 + (1 : Int)), ()), (l, ()))

/-- What is left. -/
theorem without_ok {l : List Mark} {p : Mark → Bool} {prog : Mark → (Bool → Prop) → Prop} (hp : ∀ k Q, Q (p k) → prog k Q) (hl : l.length ≤ 1152921504606846976) {J : List Mark → Prop} (h : J (l.filter fun k => !p k)) : withoutP l prog J := by
  refine LoopP.up (fun i (_ : Unit) => (((i : Int), ()), ())) l.length (fun k _ => ∀ x ∈ l.take k, p x = false) ?_ ?_ (y := ()) (by simp)
  · intro i _ X hi hI hX
    simp only [wrap_succ (show i < 9223372036854775807 by omega), rd_get (e := t43) (xs := l) hi]
    refine lt_pos (by omega) ⟨In_nat.2 hi, hp _ _ (cb (fun hpi => ?_) fun hpi => hX () ?_)⟩
    · refine eq_neg (by omega) ?_
      refine LoopP.up (body := fun (X13 : (Unit × Int × Int × Unit) × List Mark × Unit → Prop) (x12 : (Unit × Int × Int × Unit) × List Mark × Unit) => _) (fun j (y : Nat × List Mark) => (((), (y.1 : Int), ((i + 1 + j : Nat) : Int), ()), (y.2, ()))) (l.length - (i + 1))
        (fun j y => y.2.length = l.length ∧ y.1 < i + 1 + j ∧ y.2.take y.1 = (l.take (i + 1 + j)).filter (fun k => !p k) ∧ y.2.drop (i + 1 + j) = l.drop (i + 1 + j)) ?_ ?_ (y := (i, l)) ⟨rfl, by omega, ?_, rfl⟩
      · rintro j ⟨k, r⟩ X hj ⟨g1, g2, g3, g4⟩ hX
        simp only at g1 g2 g3 g4
        have hji : i + 1 + j < l.length := by omega
        have hjr : i + 1 + j < r.length := by omega
        have hrj : r[i + 1 + j] = l[i + 1 + j] := by
          have := congrArg (fun l => l[0]?) g4
          simpa [List.getElem?_drop, List.getElem?_eq_getElem hjr, List.getElem?_eq_getElem hji] using this
        simp only [wrap_succ (show i + 1 + j < 9223372036854775807 by omega), wrap_succ (show k < 9223372036854775807 by omega), rd_get (e := t43) (xs := r) hjr, Int.toNat_natCast]
        refine lt_pos (by omega) ⟨In_nat.2 hjr, hp _ _ (cnot (cb (fun hq => ?_) fun hq => ⟨In_nat.2 (by omega), ?_⟩))⟩
        · refine hX (k, r) ⟨g1, by simp only; omega, ?_, ?_⟩
          · simp only
            rw [show i + 1 + (j + 1) = (i + 1 + j) + 1 by omega, List.take_succ_eq_append_getElem hji, List.filter_append, g3]
            rw [← hrj]
            simp [hq]
          · simp only
            have := congrArg (List.drop 1) g4
            rw [List.drop_drop, List.drop_drop] at this
            exact this
        · refine hX (k + 1, r.set k r[i + 1 + j]) ⟨by simp [g1], by simp only; omega, ?_, ?_⟩
          · simp only
            rw [show i + 1 + (j + 1) = (i + 1 + j) + 1 by omega, List.take_succ_eq_append_getElem hji, List.filter_append, ← g3, ← hrj]
            rw [List.take_succ_eq_append_getElem (by simp; omega)]
            simp [hq, List.take_set_of_le]
          · simp only
            rw [List.drop_set_of_lt (by omega)]
            have := congrArg (List.drop 1) g4
            rw [List.drop_drop, List.drop_drop] at this
            exact this
      · rintro ⟨k, r⟩ X ⟨g1, g2, g3, g4⟩
        simp only at g1 g2 g3 g4
        dsimp only
        refine lt_neg (by omega) ⟨⟨by omega, by omega, by omega⟩, ⟨by omega, by omega, ?_⟩, ?_⟩
        · simp only [Int.toNat_natCast, List.length_append, List.length_take, List.length_replicate, List.length_drop]; omega
        · simp only [Int.toNat_natCast, Int.toNat_zero, Nat.sub_zero, List.drop_zero]
          rw [List.append_assoc, List.take_append_of_le_length (by simp; omega), List.take_take, Nat.min_self, g3, show i + 1 + (l.length - (i + 1)) = l.length by omega, List.take_length]
          exact h
      · simp only [Nat.add_zero]
        rw [List.take_succ_eq_append_getElem hi, List.filter_append]
        have : l[i]'hi ∈ l := List.getElem_mem hi
        simp only [List.filter_cons, hpi, Bool.not_true, Bool.false_eq_true, if_false, List.filter_nil, List.append_nil]
        exact (List.filter_eq_self.2 (fun a ha => by rw [hI a ha]; rfl)).symm
    · intro x hx
      rw [List.take_succ_eq_append_getElem hi, List.mem_append, List.mem_singleton] at hx
      rcases hx with hx | rfl
      · exact hI x hx
      · exact hpi
  · intro _ X hI
    dsimp only
    refine lt_neg (by omega) (eq_pos rfl ?_)
    rw [List.take_length] at hI
    rw [List.filter_eq_self.2 (fun a ha => by rw [hI a ha]; rfl)] at h
    exact h

end Go.Proofs.Ytodjomdnlcledaa.X
