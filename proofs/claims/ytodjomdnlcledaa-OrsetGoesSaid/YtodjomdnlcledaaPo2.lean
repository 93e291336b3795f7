/- The functions of the seat: what they compute, II: cells that may be. -/
import Derived.Test.YtodjomdnlcledaaPo1
namespace Go.Proofs.Ytodjomdnlcledaa.X
open Go Go.RowKit
set_option linter.unusedSimpArgs false
set_option linter.unusedVariables false

abbrev CellD := t26.den
abbrev membs (c : CellD) : List Memb := c.2.2.2.2.1

/-- How great a cell is. -/
structure Fits (c : CellD) : Prop where
  a : List.length c.2.2.1 ≤ 1073741824
  w : List.length c.2.2.2.1 ≤ 1073741824
  m : (membs c).length ≤ 1073741824
  e : List.length c.2.2.2.2.2 ≤ 1073741824
  r : ∀ x ∈ membs c, x.2.2.length ≤ 1073741824

/-- A member may be. -/
def MembOk (x : Memb) : Prop := (x.2.1 = true ∨ x.2.2 ≠ []) ∧ x.1.size ≤ 64 ∧ Rising x.2.2
instance (x : Memb) : Decidable (MembOk x) := by unfold MembOk; infer_instance

def MembsOk (l : List Memb) : Prop := ∀ i (h : i < l.length), MembOk l[i] ∧ (0 < i → sLess (l[i - 1]'(by omega)).1 l[i].1 = true)
instance (l : List Memb) : Decidable (MembsOk l) := by unfold MembsOk; infer_instance

def CheckC (c : CellD) : Prop := c.1 = 4 ∧ c.2.1 = 0 ∧ List.length c.2.2.1 = 0 ∧ List.length c.2.2.2.1 = 0 ∧ List.length c.2.2.2.2.2 = 0 ∧ MembsOk (membs c)
instance (c : CellD) : Decidable (CheckC c) := by unfold CheckC; infer_instance

theorem bytesLess_eq : ∀ (x y : List UInt8), Op.bytesLess x y = decide (x < y)
  | [], [] => by simp [Op.bytesLess]
  | _ :: _, [] => by simp [Op.bytesLess]
  | [], _ :: _ => by simp [Op.bytesLess]
  | a :: x, b :: y => by
    rw [Op.bytesLess, bytesLess_eq x y]
    simp only [List.cons_lt_cons_iff]
    by_cases h1 : a < b <;> by_cases h2 : a = b <;> by_cases h3 : x < y <;> simp [h1, h2, h3]

theorem bytes_tri (a b : List UInt8) (h1 : ¬ a < b) (h2 : ¬ b < a) : a = b := List.le_antisymm (List.not_lt.1 h2) (List.not_lt.1 h1)

theorem sLess_eq (a b : ByteArray) : sLess a b = decide (a.data.toList < b.data.toList) := by
  unfold sLess
  rw [ByteArray.toList_eq, ByteArray.toList_eq, bytesLess_eq]

theorem bytes_ext {a b : ByteArray} (h : a.data.toList = b.data.toList) : a = b := by
  cases a; cases b; congr 1; exact Array.toList_inj.1 h

theorem leS_iff (a b : ByteArray) : leS a b = !sLess b a := by
  unfold leS
  rw [sLess_eq, sLess_eq]
  by_cases h : a = b
  · subst h
    simp [List.lt_irrefl]
  · have hn : a.data.toList ≠ b.data.toList := fun e => h (bytes_ext e)
    rw [beq_false_of_ne h, Bool.or_false]
    by_cases h1 : a.data.toList < b.data.toList
    · have : ¬ b.data.toList < a.data.toList := List.lt_asymm h1
      simp [h1, this]
    · have : b.data.toList < a.data.toList := Decidable.byContradiction fun h2 => hn (bytes_tri _ _ h1 h2)
      simp [h1, this]

theorem MembsOk.step {l : List Memb} {k : Nat} (hk : k + 1 < l.length) (hI : ∀ i (h : i < l.length), i < k + 1 → MembOk l[i] ∧ (0 < i → sLess (l[i - 1]'(by omega)).1 l[i].1 = true)) (h1 : MembOk l[k + 1]) (h2 : sLess l[k].1 l[k + 1].1 = true) :
    ∀ i (h : i < l.length), i < k + 2 → MembOk l[i] ∧ (0 < i → sLess (l[i - 1]'(by omega)).1 l[i].1 = true) := fun j hj hj' => by
  by_cases hjk : j = k + 1
  · subst hjk; exact ⟨h1, fun _ => by simpa using h2⟩
  · exact hI j hj (by omega)

theorem check_ok {c : CellD} {Q : Bool → Prop} (hc : Fits c) (h : Q (decide (CheckC c))) : orset_Check c Q := by
  have ht : CheckC c → Q true := fun hr => by rw [decide_eq_true hr] at h; exact h
  have hf : ¬ CheckC c → Q false := fun hr => by rw [decide_eq_false hr] at h; exact h
  unfold orset_Check
  refine c_ne (fun h1 => hf fun hC => h1 hC.1) fun h1 => c_ne (fun h2 => hf fun hC => h2 hC.2.1) fun h2 => c_gt (fun h3 => hf fun hC => by have := hC.2.2.1; omega) fun h3 =>
    c_gt (fun h4 => hf fun hC => by have := hC.2.2.2.1; omega) fun h4 => c_gt (fun h5 => hf fun hC => by have := hC.2.2.2.2.1; omega) fun h5 => ?_
  have hb := hc.m
  refine LoopP.up (fun i (_ : Unit) => (((i : Int), ()), ())) (membs c).length (fun k _ => ∀ i (h : i < (membs c).length), i < k → MembOk (membs c)[i] ∧ (0 < i → sLess ((membs c)[i - 1]'(by omega)).1 (membs c)[i].1 = true)) ?_ ?_ (y := ()) (by intro i _ hi; omega)
  · intro i _ X hi hI hX
    simp only [wrap_succ (show i < 9223372036854775807 by omega), rd_get (e := t40) (xs := membs c) hi]
    refine lt_pos (by show (i : Int) < ((membs c).length : Int); omega) ⟨In_nat.2 hi, ?_⟩
    have bad : ¬ MembOk (membs c)[i] → Q false := fun hn => hf fun hC => hn (hC.2.2.2.2.2 i hi).1
    have there : ∀ b : Bool, b = decide ((membs c)[i].2.1 = true ∨ (membs c)[i].2.2 ≠ []) →
        (bif !b then Q false else
          bif gtI (ByteArray.size (membs c)[i].1 : Int) 64 then Q false else
            orset_rising (membs c)[i].2.2 fun r5 => bif !r5 then Q false else
              bif gtI (i : Int) 0 then
                In (IntKind.i64.wrap ((i : Int) - 1)) (List.length (membs c)) ∧
                bif leS (membs c)[i].1 (rd (e := t40) (membs c) (IntKind.i64.wrap ((i : Int) - 1))).1 then Q false else X ((((i + 1 : Nat) : Int), ()), ())
              else X ((((i + 1 : Nat) : Int), ()), ())) := by
      intro b hb'
      subst hb'
      refine cnot (cdec (fun g1 => c_gt (fun g2 => bad fun hM => by have := hM.2.1; omega) fun g2 => rising_ok (by have := hc.r _ (List.getElem_mem hi); omega) (cnot (cdec (fun g3 => ?_) fun g3 => bad fun hM => g3 hM.2.2))) fun g1 => bad fun hM => g1 hM.1)
      have good : MembOk (membs c)[i] := ⟨g1, by omega, g3⟩
      cases i with
      | zero =>
        refine gt_neg (by omega) (hX () (fun j hj hj' => ?_))
        have : j = 0 := by omega
        subst this; exact ⟨good, by omega⟩
      | succ k =>
        rw [wrap_pred (by omega), rd_get (e := t40) (xs := membs c) (show k < (membs c).length by omega)]
        refine gt_pos (by omega) ⟨In_nat.2 (by show k < (membs c).length; omega), ?_⟩
        rw [leS_iff]
        refine cnot (cb (fun g4 => hX () (MembsOk.step hi hI good g4)) fun g4 => hf fun hC => ?_)
        have := (hC.2.2.2.2.2 (k + 1) hi).2 (by omega)
        simp only [Nat.add_sub_cancel] at this
        rw [g4] at this; cases this
    refine cb (fun g1 => there true ?_) fun g1 => there _ ?_
    · simp [g1]
    · have : (membs c)[i].2.1 = true ∨ (membs c)[i].2.2 ≠ [] ↔ (membs c)[i].2.2 ≠ [] := by rw [g1]; simp
      unfold gtI
      simp only [decide_eq_decide, this]
      rw [← List.length_pos_iff]
      show ((membs c)[i].2.2.length : Int) > 0 ↔ _
      omega
  · intro _ X hI
    refine lt_neg (by show ((membs c).length : Int) ≤ ((membs c).length : Int); omega) (ht ⟨h1, h2, by omega, by omega, by omega, fun i hi => hI i hi hi⟩)

theorem check10_ok {c : CellD} {Q : Bool → Prop} (hc : Fits c) (h : Q (decide (CheckC c))) : ref10_Check c Q := by
  have ht : CheckC c → Q true := fun hr => by rw [decide_eq_true hr] at h; exact h
  have hf : ¬ CheckC c → Q false := fun hr => by rw [decide_eq_false hr] at h; exact h
  have b1 := hc.a
  have b2 := hc.w
  have b3 := hc.e
  have hb := hc.m
  unfold ref10_Check
  rw [wrap_of (x := (List.length c.2.2.1 : Int) + (List.length c.2.2.2.1 : Int)) (by omega) (by omega), wrap_of (by omega) (by omega)]
  refine c_ne (fun h1 => hf fun hC => h1 hC.1) fun h1 => c_ne (fun h2 => hf fun hC => h2 hC.2.1) fun h2 => c_gt (fun h3 => hf fun hC => by have := hC.2.2.1; have := hC.2.2.2.1; have := hC.2.2.2.2.1; omega) fun h3 => ?_
  refine LoopP.up (fun i (_ : Unit) => (((i : Int), ()), ())) (membs c).length (fun k _ => ∀ i (h : i < (membs c).length), i < k → MembOk (membs c)[i] ∧ (0 < i → sLess ((membs c)[i - 1]'(by omega)).1 (membs c)[i].1 = true)) ?_ ?_ (y := ()) (by intro i _ hi; omega)
  · intro i _ X hi hI hX
    simp only [wrap_succ (show i < 9223372036854775807 by omega), rd_get (e := t40) (xs := membs c) hi]
    refine lt_pos (by show (i : Int) < ((membs c).length : Int); omega) ⟨In_nat.2 hi, ?_⟩
    have bad : ¬ MembOk (membs c)[i] → Q false := fun hn => hf fun hC => hn (hC.2.2.2.2.2 i hi).1
    refine c_gt (fun g2 => bad fun hM => by have := hM.2.1; omega) fun g2 => ?_
    have rest : ((membs c)[i].2.1 = true ∨ (membs c)[i].2.2 ≠ []) →
        (ref10_Rising (membs c)[i].2.2 fun r5 => bif !r5 then Q false else
              bif gtI (i : Int) 0 then
                In (IntKind.i64.wrap ((i : Int) - 1)) (List.length (membs c)) ∧
                bif leS (membs c)[i].1 (rd (e := t40) (membs c) (IntKind.i64.wrap ((i : Int) - 1))).1 then Q false else X ((((i + 1 : Nat) : Int), ()), ())
              else X ((((i + 1 : Nat) : Int), ()), ())) := by
      intro g1
      refine rising10_ok (by have := hc.r _ (List.getElem_mem hi); omega) (cnot (cdec (fun g3 => ?_) fun g3 => bad fun hM => g3 hM.2.2))
      have good : MembOk (membs c)[i] := ⟨g1, by omega, g3⟩
      cases i with
      | zero =>
        refine gt_neg (by omega) (hX () (fun j hj hj' => ?_))
        have : j = 0 := by omega
        subst this; exact ⟨good, by omega⟩
      | succ k =>
        rw [wrap_pred (by omega), rd_get (e := t40) (xs := membs c) (show k < (membs c).length by omega)]
        refine gt_pos (by omega) ⟨In_nat.2 (by show k < (membs c).length; omega), ?_⟩
        rw [leS_iff]
        refine cnot (cb (fun g4 => hX () (MembsOk.step hi hI good g4)) fun g4 => hf fun hC => ?_)
        have := (hC.2.2.2.2.2 (k + 1) hi).2 (by omega)
        simp only [Nat.add_sub_cancel] at this
        rw [g4] at this; cases this
    refine cnot (cb (fun g1 => rest (.inl g1)) fun g1 => c_eq (fun g5 => bad fun hM => ?_) fun g5 => rest (.inr fun e => g5 ?_))
    · rcases hM.1 with h | h
      · rw [g1] at h; cases h
      · exact h (List.length_eq_zero_iff.1 (by have : ((membs c)[i].2.2.length : Int) = 0 := g5
                                               omega))
    · show ((membs c)[i].2.2.length : Int) = 0
      rw [e]; rfl
  · intro _ X hI
    refine lt_neg (by show ((membs c).length : Int) ≤ ((membs c).length : Int); omega) (ht ⟨h1, h2, by omega, by omega, by omega, fun i hi => hI i hi hi⟩)

end Go.Proofs.Ytodjomdnlcledaa.X
