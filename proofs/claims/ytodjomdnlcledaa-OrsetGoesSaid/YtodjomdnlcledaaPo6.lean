/- The functions of the seat: what they compute, VI. -/
import Derived.Test.YtodjomdnlcledaaPo5
import Derived.Test.YtodjomdnlcledaaY17
namespace Go.Proofs.Ytodjomdnlcledaa.X
open Go Go.RowKit
set_option linter.unusedSimpArgs false
set_option linter.unusedVariables false

/-- A loop from 0 to n that leaves with false, or goes on. -/
theorem loop_each {body : ((Int × Unit) × Unit → Prop) → (Int × Unit) × Unit → Prop} {n : Nat} (P : Nat → Prop) (hn : n < 9223372036854775807)
    (step : ∀ (i : Nat) (X : (Int × Unit) × Unit → Prop), i < n → (P i → X ((((i + 1 : Nat) : Int), ()), ())) → body X ((((i : Nat) : Int), ()), ()))
    (last : ∀ (X : (Int × Unit) × Unit → Prop), (∀ i, i < n → P i) → body X (((n : Int), ()), ())) : LoopP body (((0 : Int), ()), ()) := by
  refine LoopP.up (fun i (_ : Unit) => (((i : Int), ()), ())) n (fun k _ => ∀ i, i < k → P i) ?_ ?_ (y := ()) (by intro i hi; omega)
  · intro i _ X hi hI hX
    exact step i X hi (fun hp => hX () (fun j hj => by
      by_cases h : j = i
      · subst h; exact hp
      · exact hI j (by omega)))
  · intro _ X hI
    exact last X hI

theorem few_ok {c : CellD} {Q : Bool → Prop} (ha : List.length c.2.2.1 ≤ reachBytes) (hw : List.length c.2.2.2.1 ≤ reachBytes) (hm : (membs c).length ≤ reachBytes) (he : List.length c.2.2.2.2.2 ≤ reachBytes)
    (ht : List.length c.2.2.1 + List.length c.2.2.2.1 + (membs c).length + List.length c.2.2.2.2.2 ≤ 60 → (∀ x ∈ membs c, x.2.2.length ≤ 30) → Q true) (hf : Q false) : ref08_Few c Q := by
  have hrb : reachBytes = 140737488351232 := rfl
  have e1 : (membs c).length = List.length c.2.2.2.2.1 := rfl
  unfold ref08_Few
  rw [wrap_of (x := (List.length c.2.2.1 : Int) + (List.length c.2.2.2.1 : Int)) (by omega) (by omega), wrap_of (x := (List.length c.2.2.1 : Int) + (List.length c.2.2.2.1 : Int) + (List.length c.2.2.2.2.1 : Int)) (by omega) (by omega), wrap_of (by omega) (by omega)]
  refine c_gt (fun _ => hf) fun h1 => ?_
  refine loop_each (n := List.length c.2.2.2.1) (fun _ => True) (by omega) ?_ ?_
  · intro i X hi hX
    simp only [wrap_succ (show i < 9223372036854775807 by omega)]
    exact lt_pos (by omega) ⟨In_nat.2 hi, c_gt (fun _ => hf) fun _ => hX trivial⟩
  · intro X _
    refine lt_neg (Int.le_refl _) ?_
    refine loop_each (n := (membs c).length) (fun i => ∀ (h : i < (membs c).length), (membs c)[i].2.2.length ≤ 30) (by omega) ?_ ?_
    · intro i X hi hX
      simp only [wrap_succ (show i < 9223372036854775807 by omega), rd_get (e := t40) (xs := membs c) hi]
      refine lt_pos (by omega) ⟨In_nat.2 hi, c_gt (fun _ => hf) fun _ => ⟨In_nat.2 hi, c_gt (fun _ => hf) fun h2 => hX fun _ => ?_⟩⟩
      omega
    · intro X hmk
      refine lt_neg (Int.le_refl _) ?_
      refine loop_each (n := List.length c.2.2.2.2.2) (fun _ => True) (by omega) ?_ ?_
      · intro i X hi hX
        simp only [wrap_succ (show i < 9223372036854775807 by omega)]
        exact lt_pos (by omega) ⟨In_nat.2 hi, c_gt (fun _ => hf) fun _ => ⟨In_nat.2 hi, c_gt (fun _ => hf) fun h2 => hX trivial⟩⟩
      · intro X _
        refine lt_neg (Int.le_refl _) (ht (by omega) fun x hx => ?_)
        obtain ⟨i, hi, rfl⟩ := List.mem_iff_getElem.1 hx
        exact hmk i hi hi

theorem small_ok {t : t33.den} {Q : Bool → Prop} (ho : List.length t.2.2.2 ≤ reachBytes) (h : ∀ b, Q b) : ref07_Small t Q := by
  have hrb : reachBytes = 140737488351232 := rfl
  unfold ref07_Small
  refine loop_each (n := List.length t.2.2.2) (fun _ => True) (by omega) ?_ ?_
  · intro i X hi hX
    simp only [wrap_succ (show i < 9223372036854775807 by omega)]
    exact lt_pos (by omega) (c_le (fun _ => ⟨In_nat.2 hi, c_gt (fun _ => h _) fun _ => c_gt (fun _ => h _) fun _ => c_gt (fun _ => h _) fun _ => hX trivial⟩) fun _ => h _)
  · intro X _
    exact lt_neg (Int.le_refl _) (h _)

theorem texts_ok {a b : List ByteArray} {Q : Bool → Prop} (ha : a.length ≤ 1073741824) (h : Q (decide (a = b))) : ref08_Texts a b Q := by
  have ht : a = b → Q true := fun hr => by rw [decide_eq_true hr] at h; exact h
  have hf : ¬ a = b → Q false := fun hr => by rw [decide_eq_false hr] at h; exact h
  unfold ref08_Texts
  refine c_ne (fun h1 => hf fun e => h1 (by rw [e])) fun h1 => ?_
  have hl : a.length = b.length := by
    have : (a.length : Int) = (b.length : Int) := h1
    omega
  refine loop_each (n := a.length) (fun i => a[i]? = b[i]?) (by omega) ?_ ?_
  · intro i X hi hX
    simp only [wrap_succ (show i < 9223372036854775807 by omega), rd_get (e := Ty.str) (xs := a) hi, rd_get (e := Ty.str) (xs := b) (show i < b.length by omega)]
    refine lt_pos (by omega) ⟨In_nat.2 hi, In_nat.2 (by omega), cnot (c_eqS (fun h2 => hX ?_) fun h2 => hf fun e => h2 ?_)⟩
    · rw [List.getElem?_eq_getElem hi, List.getElem?_eq_getElem (show i < b.length by omega), h2]
    · subst e; rfl
  · intro X hI
    refine lt_neg (Int.le_refl _) (ht ?_)
    apply List.ext_getElem?
    intro i
    by_cases hi : i < a.length
    · exact hI i hi
    · rw [List.getElem?_eq_none (by omega), List.getElem?_eq_none (by omega)]

theorem read_ok {c : CellD} {Q : t47.den → Prop} (hc : Fits c) (h1 : ¬ CheckC c → Q ((0 : Int), ((0 : Int), (([] : List Ty.str.den), ([] : List Ty.unit.den))))) (h2 : CheckC c → Q ((4 : Int), ((0 : Int), ((membs c).map (·.1), ([] : List Ty.unit.den))))) : orset_Read c Q := by
  have hmr : maxRow = 2147483648 := rfl
  have hb := hc.m
  unfold orset_Read
  refine check_ok hc (cnot (cdec (fun hC => ?_) h1))
  refine LoopP.up (fun i (acc : List ByteArray) => (((i : Int), ()), (((4 : Int), (0 : Int), (), ([] : List Ty.unit.den), ()), acc, ()))) (membs c).length (fun k acc => acc = ((membs c).take k).map (·.1)) ?_ ?_ (y := []) rfl
  · intro i acc X hi hI hX
    subst hI
    simp only [wrap_succ (show i < 9223372036854775807 by omega), rd_get (e := t40) (xs := membs c) hi]
    refine lt_pos (by show (i : Int) < ((membs c).length : Int); omega) ⟨In_nat.2 hi, ?_, hX _ ?_⟩
    · simp only [List.length_map, List.length_take, List.length_cons, List.length_nil]; omega
    · rw [List.take_succ_eq_append_getElem hi, List.map_append]; rfl
  · intro acc X hI
    subst hI
    refine lt_neg (Int.le_refl _) ?_
    rw [List.take_length]
    exact h2 hC

end Go.Proofs.Ytodjomdnlcledaa.X
