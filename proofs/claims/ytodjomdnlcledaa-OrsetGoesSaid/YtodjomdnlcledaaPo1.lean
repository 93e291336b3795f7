/- The functions of the seat: what they compute, I. -/
import Derived.Test.YtodjomdnlcledaaGo4
namespace Go.Proofs.Ytodjomdnlcledaa.X
open Go Go.RowKit
set_option linter.unusedSimpArgs false
set_option linter.unusedVariables false

abbrev Mark := (Int × Int) × Int
abbrev Memb := ByteArray × Bool × List Mark

def mless (a b : Mark) : Bool := decide (a.1.1 < b.1.1) || (a.1.1 == b.1.1 && (decide (a.1.2 < b.1.2) || (a.1.2 == b.1.2 && decide (a.2 < b.2))))
def hasV (v : List Int) (d : Int × Int) : Bool := decide (1 ≤ d.1) && (decide (d.1 ≤ 12) && (decide (1 ≤ d.2) && decide (d.2 ≤ v.getD d.1.toNat 0)))
def befM (m : Mark) (t : t33.den) (i : Int) : Bool := decide (1 ≤ m.2) && (hasV t.2.1 m.1 || ((m.1.1 == t.1.1 && m.1.2 == t.1.2) && decide (m.2 < i)))
def cmpI (x y : Int) : Int := if x < y then -1 else if y < x then 1 else 0

theorem isNaN_ok {x : Int} {Q : Bool → Prop} (h : Q false) : cmp_isNaN_int x Q := by
  unfold cmp_isNaN_int neI; simpa using h

theorem cmpI_ok {x y : Int} {Q : Int → Prop} (h : Q (cmpI x y)) : cmp_Compare_int x y Q := by
  unfold cmp_Compare_int
  refine isNaN_ok (isNaN_ok ?_)
  unfold cmpI at h
  refine c_lt (fun h1 => ?_) fun h1 => c_gt (fun h2 => ?_) fun h2 => ?_
  · rw [if_pos h1] at h; exact h
  · rw [if_neg h1, if_pos h2] at h; exact h
  · rw [if_neg h1, if_neg h2] at h; exact h

theorem or3_ok {a b c : Int} {Q : Int → Prop} (h : Q (if a ≠ 0 then a else if b ≠ 0 then b else c)) : cmp_Or_int [a, b, c] Q := by
  unfold cmp_Or_int
  refine LoopP.up (fun i (_ : Unit) => (((i : Int), ()), ())) 3 (fun i _ => (1 ≤ i → a = 0) ∧ (2 ≤ i → b = 0) ∧ (3 ≤ i → c = 0)) ?_ ?_ (y := ()) ⟨by omega, by omega, by omega⟩
  · intro i _ X hi ⟨h1, h2, h3⟩ hX
    simp only [List.length_cons, List.length_nil, wrap_succ (show i < 9223372036854775807 by omega)]
    refine lt_pos (by omega) ⟨by simp [In]; omega, ?_⟩
    match i, hi with
    | 0, _ =>
      refine c_ne (fun ha => ?_) fun ha => hX () ⟨fun _ => ha, by omega, by omega⟩
      rw [if_pos (show a ≠ 0 from ha)] at h; exact h
    | 1, _ =>
      have := h1 (by omega); subst this
      refine c_ne (fun ha => ?_) fun ha => hX () ⟨by simp, fun _ => ha, by omega⟩
      rw [if_neg (by simp), if_pos (show b ≠ 0 from ha)] at h; exact h
    | 2, _ =>
      have := h1 (by omega); subst this
      have := h2 (by omega); subst this
      refine c_ne (fun ha => ?_) fun ha => hX () ⟨by simp, by simp, fun _ => ha⟩
      rw [if_neg (by simp), if_neg (by simp)] at h; exact h
  · intro _ X ⟨h1, h2, h3⟩
    have := h1 (by omega); subst this
    have := h2 (by omega); subst this
    have := h3 (by omega); subst this
    exact lt_neg (by simp) (by simpa using h)

theorem mless_cmp (a b : Mark) : ltI (if cmpI a.1.1 b.1.1 ≠ 0 then cmpI a.1.1 b.1.1 else if cmpI a.1.2 b.1.2 ≠ 0 then cmpI a.1.2 b.1.2 else cmpI a.2 b.2) 0 = mless a b := by
  unfold ltI mless cmpI
  by_cases h1 : a.1.1 < b.1.1
  · simp [h1]
  · by_cases h2 : b.1.1 < a.1.1
    · have : ¬ a.1.1 = b.1.1 := by omega
      simp [h1, h2, this]
    · have : a.1.1 = b.1.1 := by omega
      by_cases h3 : a.1.2 < b.1.2
      · simp [h3, this]
      · by_cases h4 : b.1.2 < a.1.2
        · have : ¬ a.1.2 = b.1.2 := by omega
          simp [h3, h4, *]
        · have : a.1.2 = b.1.2 := by omega
          by_cases h5 : a.2 < b.2
          · simp [*]
          · by_cases h6 : b.2 < a.2 <;> simp [*]

theorem less_ok {a b : Mark} {Q : Bool → Prop} (h : Q (mless a b)) : ops_Less a b Q := by
  unfold ops_Less
  refine cmpI_ok (cmpI_ok (cmpI_ok (or3_ok ?_)))
  rw [mless_cmp]; exact h

theorem less7_ok {a b : Mark} {Q : Bool → Prop} (h : Q (mless a b)) : ref07_Less a b Q := by
  unfold ref07_Less mless at *
  refine c_ne (fun h1 => ?_) fun h1 => c_ne (fun h2 => ?_) fun h2 => ?_
  · have e : (a.1.1 == b.1.1) = false := beq_false_of_ne h1
    simpa [e, ltI] using h
  · have e : (a.1.2 == b.1.2) = false := beq_false_of_ne h2
    simpa [e, h1, ltI] using h
  · simpa [h1, h2, ltI] using h

theorem peer_ok {p : Int} {Q : Bool → Prop} (h : Q (decide (1 ≤ p) && decide (p ≤ 12))) : vec_peer p Q := by
  unfold vec_peer
  refine c_ge (fun h1 => ?_) fun h1 => ?_
  · simpa [h1, leI] using h
  · simpa [h1] using h
theorem peer3_ok {p : Int} {Q : Bool → Prop} (h : Q (decide (1 ≤ p) && decide (p ≤ 12))) : ref03_Peer p Q := by
  unfold ref03_Peer
  refine c_ge (fun h1 => ?_) fun h1 => ?_
  · simpa [h1, leI] using h
  · simpa [h1] using h

theorem has_ok {v : List Int} {d : Int × Int} {Q : Bool → Prop} (h : Q (hasV v d)) : vec_Has v d Q := by
  unfold vec_Has hasV at *
  refine peer_ok (cb (fun h1 => ?_) fun h1 => ?_)
  · simp only [Bool.and_eq_true, decide_eq_true_eq] at h1
    refine c_ge (fun h2 => ⟨⟨by omega, by omega⟩, ?_⟩) fun h2 => ?_
    · simpa [h1, h2, geI] using h
    · simpa [h1, h2] using h
  · rw [← Bool.and_assoc, h1] at h; exact h
theorem has3_ok {v : List Int} {d : Int × Int} {Q : Bool → Prop} (h : Q (hasV v d)) : ref03_Has v d Q := by
  unfold ref03_Has hasV at *
  refine peer3_ok (cb (fun h1 => ?_) fun h1 => ?_)
  · simp only [Bool.and_eq_true, decide_eq_true_eq] at h1
    refine c_ge (fun h2 => ⟨⟨by omega, by omega⟩, ?_⟩) fun h2 => ?_
    · simpa [h1, h2, leI] using h
    · simpa [h1, h2] using h
  · rw [← Bool.and_assoc, h1] at h; exact h

theorem before_ok {m : Mark} {t : t33.den} {i : Int} {Q : Bool → Prop} (h : Q (befM m t i)) : ops_Before m t i Q := by
  unfold ops_Before befM at *
  refine c_ge (fun h1 => has_ok (cb (fun h2 => ?_) fun h2 => ?_)) fun h1 => ?_
  · simpa [h1, h2] using h
  · simp only [eqD]
    refine cb (fun h3 => ?_) fun h3 => ?_
    · rw [h2, h3] at h; simpa [h1, ltI] using h
    · rw [h2, h3] at h; simpa [h1] using h
  · simpa [h1] using h
theorem before7_ok {m : Mark} {t : t33.den} {i : Int} {Q : Bool → Prop} (h : Q (befM m t i)) : ref07_Before m t i Q := by
  unfold ref07_Before befM at *
  refine c_lt (fun h1 => ?_) fun h1 => ?_
  · have : ¬ 1 ≤ m.2 := by omega
    simpa [this] using h
  · have h1 : 1 ≤ m.2 := by omega
    simp only [eqD]
    refine cb (fun h3 => c_lt (fun h4 => ?_) fun h4 => has3_ok ?_) fun h3 => has3_ok ?_
    · rw [h3] at h; simpa [h1, h4] using h
    · rw [h3] at h; simpa [h1, h4] using h
    · rw [h3] at h; simpa [h1] using h

/-! ### Marks that rise -/
def Rising (l : List Mark) : Prop := ∀ i (h : i < l.length), 1 ≤ l[i].2 ∧ (0 < i → mless (l[i - 1]'(by omega)) l[i] = true)
instance (l : List Mark) : Decidable (Rising l) := by unfold Rising; infer_instance

/-- One step of the loop. -/
theorem Rising.step {l : List Mark} {k : Nat} (hk : k + 1 < l.length) (hI : ∀ i (h : i < l.length), i < k + 1 → 1 ≤ l[i].2 ∧ (0 < i → mless (l[i - 1]'(by omega)) l[i] = true)) (h1 : 1 ≤ l[k + 1].2) (h2 : mless l[k] l[k + 1] = true) :
    ∀ i (h : i < l.length), i < k + 2 → 1 ≤ l[i].2 ∧ (0 < i → mless (l[i - 1]'(by omega)) l[i] = true) := fun j hj hj' => by
  by_cases hjk : j = k + 1
  · subst hjk; exact ⟨h1, fun _ => by simpa using h2⟩
  · exact hI j hj (by omega)

theorem rising_ok {l : List Mark} {Q : Bool → Prop} (hl : l.length < 4611686018427387904) (h : Q (decide (Rising l))) : orset_rising l Q := by
  unfold orset_rising
  have ht : Rising l → Q true := fun hr => by rw [decide_eq_true hr] at h; exact h
  have hf : ¬ Rising l → Q false := fun hr => by rw [decide_eq_false hr] at h; exact h
  refine LoopP.up (fun i (_ : Unit) => (((i : Int), ()), ())) l.length (fun k _ => ∀ i (h : i < l.length), i < k → 1 ≤ l[i].2 ∧ (0 < i → mless (l[i - 1]'(by omega)) l[i] = true)) ?_ ?_ (y := ()) (by intro i _ hi; omega)
  · intro i _ X hi hI hX
    simp only [wrap_succ (show i < 9223372036854775807 by omega), rd_get (e := t43) (xs := l) hi]
    refine lt_pos (by omega) ⟨In_nat.2 hi, c_lt (fun h1 => hf fun hR => by have := (hR i hi).1; omega) fun h1 => ?_⟩
    cases i with
    | zero =>
      refine gt_neg (by omega) (hX () (fun j hj hj' => ?_))
      have : j = 0 := by omega
      subst this; exact ⟨by omega, by omega⟩
    | succ k =>
      rw [wrap_pred (by omega), rd_get (e := t43) (xs := l) (show k < l.length by omega)]
      refine gt_pos (by omega) ⟨In_nat.2 (by omega), less_ok (cnot (cb (fun h2 => ?_) fun h2 => hf fun hR => ?_))⟩
      · exact hX () (Rising.step hi hI (by omega) h2)
      · have := (hR (k + 1) hi).2 (by omega)
        simp only [Nat.add_sub_cancel] at this
        rw [h2] at this; cases this
  · intro _ X hI
    exact lt_neg (by simp) (ht fun i hi => hI i hi hi)

theorem rising10_ok {l : List Mark} {Q : Bool → Prop} (hl : l.length < 4611686018427387904) (h : Q (decide (Rising l))) : ref10_Rising l Q := by
  unfold ref10_Rising
  have ht : Rising l → Q true := fun hr => by rw [decide_eq_true hr] at h; exact h
  have hf : ¬ Rising l → Q false := fun hr => by rw [decide_eq_false hr] at h; exact h
  refine LoopP.up (fun i (_ : Unit) => (((i : Int), ()), ())) l.length (fun k _ => ∀ i (h : i < l.length), i < k → 1 ≤ l[i].2 ∧ (0 < i → mless (l[i - 1]'(by omega)) l[i] = true)) ?_ ?_ (y := ()) (by intro i _ hi; omega)
  · intro i _ X hi hI hX
    simp only [wrap_succ (show i < 9223372036854775807 by omega), rd_get (e := t43) (xs := l) hi]
    refine lt_pos (by omega) ⟨In_nat.2 hi, c_lt (fun h1 => hf fun hR => by have := (hR i hi).1; omega) fun h1 => ?_⟩
    cases i with
    | zero =>
      refine gt_neg (by omega) (hX () (fun j hj hj' => ?_))
      have : j = 0 := by omega
      subst this; exact ⟨by omega, by omega⟩
    | succ k =>
      rw [wrap_pred (by omega), rd_get (e := t43) (xs := l) (show k < l.length by omega)]
      refine gt_pos (by omega) ⟨In_nat.2 (by omega), In_nat.2 hi, less7_ok (cnot (cb (fun h2 => ?_) fun h2 => hf fun hR => ?_))⟩
      · exact hX () (Rising.step hi hI (by omega) h2)
      · have := (hR (k + 1) hi).2 (by omega)
        simp only [Nat.add_sub_cancel] at this
        rw [h2] at this; cases this
  · intro _ X hI
    exact lt_neg (by simp) (ht fun i hi => hI i hi hi)

end Go.Proofs.Ytodjomdnlcledaa.X
