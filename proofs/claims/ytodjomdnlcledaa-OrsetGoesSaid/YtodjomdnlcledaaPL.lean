/- Plain Lean: loops, lists, numbers. -/
import Derived.Test.YtodjomdnlcledaaX6
namespace Go.Proofs.Ytodjomdnlcledaa.X
open Go Go.RowKit
set_option linter.unusedSimpArgs false
set_option linter.unusedVariables false

theorem LoopP.intro {σ : Type} {body : (σ → Prop) → σ → Prop} (I : σ → Prop) (m : σ → Nat) (h : ∀ x (X : σ → Prop), I x → (∀ y, I y → m y < m x → X y) → body X x) {x : σ} (hx : I x) : LoopP body x := by
  intro X hX
  have key : ∀ n x, m x = n → I x → X x := by
    intro n
    induction n using Nat.strongRecOn with
    | ind n ih => intro x hm hI; exact hX x (h x X hI (fun y hy hlt => ih (m y) (by omega) y rfl hy))
  exact key _ x rfl hx

/-- A loop whose state is i and y: i goes up to n. -/
theorem LoopP.up {σ τ : Type} {body : (σ → Prop) → σ → Prop} (st : Nat → τ → σ) (n : Nat) (I : Nat → τ → Prop)
    (step : ∀ (i : Nat) (y : τ) (X : σ → Prop), i < n → I i y → (∀ y', I (i + 1) y' → X (st (i + 1) y')) → body X (st i y))
    (last : ∀ (y : τ) (X : σ → Prop), I n y → body X (st n y)) {y : τ} (h0 : I 0 y) : LoopP body (st 0 y) := by
  intro X hX
  have key : ∀ k i y, i + k = n → I i y → X (st i y) := by
    intro k
    induction k with
    | zero => intro i y hi hI; have : i = n := by omega
              subst this; exact hX _ (last y X hI)
    | succ k ih => intro i y hi hI; exact hX _ (step i y X (by omega) hI (fun y' hy => ih (i + 1) y' (by omega) hy))
  exact key n 0 y (by omega) h0

theorem wrap_of {x : Int} (h1 : -9223372036854775808 ≤ x) (h2 : x ≤ 9223372036854775807) : IntKind.i64.wrap x = x := by
  simp only [IntKind.wrap, IntKind.bits, IntKind.signed]
  simp
  omega

theorem wrap_nat {n : Nat} (h : n < 9223372036854775808) : IntKind.i64.wrap (n : Int) = n := wrap_of (by omega) (by omega)
theorem wrap_succ {n : Nat} (h : n < 9223372036854775807) : IntKind.i64.wrap ((n : Int) + 1) = ((n + 1 : Nat) : Int) := by rw [wrap_of (by omega) (by omega)]; omega
theorem wrap_pred {n : Nat} (h : n < 9223372036854775807) : IntKind.i64.wrap (((n + 1 : Nat) : Int) - 1) = (n : Int) := by rw [wrap_of (by omega) (by omega)]; omega

theorem rd_get {e : Ty} {xs : List e.den} {i : Nat} (h : i < List.length xs) : rd xs (i : Int) = xs[i] := by
  simp [rd, h]
theorem In_nat {i n : Nat} : In (i : Int) n ↔ i < n := by simp [In]

/-! ### Words of the printed functions -/
def ltI (x y : Int) : Bool := decide (x < y)
def leI (x y : Int) : Bool := decide (x ≤ y)
def gtI (x y : Int) : Bool := decide (x > y)
def geI (x y : Int) : Bool := decide (x ≥ y)
def eqI (x y : Int) : Bool := x == y
def neI (x y : Int) : Bool := x != y
def eqS (x y : ByteArray) : Bool := x == y
def leS (x y : ByteArray) : Bool := sLess x y || x == y
def eqB (x y : Bool) : Bool := x == y
def maxF (x y : Int) : Int := if y > x then y else x
def minF (x y : Int) : Int := if y < x then y else x
def In2 (l h n : Int) : Prop := 0 ≤ l ∧ l ≤ h ∧ h ≤ n
def InS (i n : Int) : Prop := 0 ≤ i ∧ i < n
def nzI (x : Int) : Prop := x ≠ 0

instance lawfulBytes : LawfulBEq ByteArray where
  eq_of_beq {a b} h := by
    cases a; cases b
    have h : (_ == _) = true := h
    exact congrArg ByteArray.mk (eq_of_beq h)
  rfl {a} := by
    cases a
    exact beq_self_eq_true (α := Array UInt8) _

section
variable {x y : Int} {A B : Prop}
theorem c_lt (h1 : x < y → A) (h2 : ¬ x < y → B) : cond (ltI x y) A B := by unfold ltI; by_cases h : x < y; (rw [decide_eq_true h]; exact h1 h); (rw [decide_eq_false h]; exact h2 h)
theorem c_le (h1 : x ≤ y → A) (h2 : ¬ x ≤ y → B) : cond (leI x y) A B := by unfold leI; by_cases h : x ≤ y; (rw [decide_eq_true h]; exact h1 h); (rw [decide_eq_false h]; exact h2 h)
theorem c_gt (h1 : y < x → A) (h2 : ¬ y < x → B) : cond (gtI x y) A B := by unfold gtI; by_cases h : x > y; (rw [decide_eq_true h]; exact h1 h); (rw [decide_eq_false h]; exact h2 h)
theorem c_ge (h1 : y ≤ x → A) (h2 : ¬ y ≤ x → B) : cond (geI x y) A B := by unfold geI; by_cases h : x ≥ y; (rw [decide_eq_true h]; exact h1 h); (rw [decide_eq_false h]; exact h2 h)
theorem c_eq (h1 : x = y → A) (h2 : x ≠ y → B) : cond (eqI x y) A B := by unfold eqI; by_cases h : x = y; (rw [beq_iff_eq.2 h]; exact h1 h); (rw [beq_false_of_ne h]; exact h2 h)
theorem c_ne (h1 : x ≠ y → A) (h2 : x = y → B) : cond (neI x y) A B := by unfold neI bne; by_cases h : x = y; (rw [beq_iff_eq.2 h]; exact h2 h); (rw [beq_false_of_ne h]; exact h1 h)
theorem lt_pos (h : x < y) (a : A) : cond (ltI x y) A B := c_lt (fun _ => a) (fun n => absurd h n)
theorem lt_neg (h : y ≤ x) (b : B) : cond (ltI x y) A B := c_lt (fun n => by omega) (fun _ => b)
theorem le_pos (h : x ≤ y) (a : A) : cond (leI x y) A B := c_le (fun _ => a) (fun n => absurd h n)
theorem le_neg (h : y < x) (b : B) : cond (leI x y) A B := c_le (fun n => by omega) (fun _ => b)
theorem gt_pos (h : y < x) (a : A) : cond (gtI x y) A B := c_gt (fun _ => a) (fun n => absurd h n)
theorem gt_neg (h : x ≤ y) (b : B) : cond (gtI x y) A B := c_gt (fun n => by omega) (fun _ => b)
theorem ge_pos (h : y ≤ x) (a : A) : cond (geI x y) A B := c_ge (fun _ => a) (fun n => absurd h n)
theorem ge_neg (h : x < y) (b : B) : cond (geI x y) A B := c_ge (fun n => by omega) (fun _ => b)
theorem eq_pos (h : x = y) (a : A) : cond (eqI x y) A B := c_eq (fun _ => a) (fun n => absurd h n)
theorem eq_neg (h : x ≠ y) (b : B) : cond (eqI x y) A B := c_eq (fun n => absurd n h) (fun _ => b)
theorem ne_pos (h : x ≠ y) (a : A) : cond (neI x y) A B := c_ne (fun _ => a) (fun n => absurd n h)
theorem ne_neg (h : x = y) (b : B) : cond (neI x y) A B := c_ne (fun n => absurd h n) (fun _ => b)
theorem c_eqS {x y : ByteArray} (h1 : x = y → A) (h2 : x ≠ y → B) : cond (eqS x y) A B := by
  unfold eqS
  by_cases h : x = y
  · rw [beq_iff_eq.2 h]; exact h1 h
  · rw [beq_eq_false_iff_ne.2 h]; exact h2 h
end

/-! ### Tests -/
section
variable {p : Prop} [Decidable p] {A B : Prop} {b : Bool}
theorem cpos (hp : p) (h : A) : cond (decide p) A B := by rw [decide_eq_true hp]; exact h
theorem cneg (hp : ¬ p) (h : B) : cond (decide p) A B := by rw [decide_eq_false hp]; exact h
theorem cdec (h1 : p → A) (h2 : ¬ p → B) : cond (decide p) A B := by by_cases hp : p; exact cpos hp (h1 hp); exact cneg hp (h2 hp)
theorem cb (h1 : b = true → A) (h2 : b = false → B) : cond b A B := by cases b; exact h2 rfl; exact h1 rfl
theorem cnot (h : cond b B A) : cond (!b) A B := by cases b <;> exact h
theorem cnot_dec (h1 : p → B) (h2 : ¬ p → A) : cond (!decide p) A B := cnot (cdec h1 h2)
theorem ctrue (hb : b = true) (h : A) : cond b A B := by rw [hb]; exact h
theorem cfalse (hb : b = false) (h : B) : cond b A B := by rw [hb]; exact h
theorem ceq {α : Type} [BEq α] [LawfulBEq α] {x y : α} (h1 : x = y → A) (h2 : x ≠ y → B) : cond (x == y) A B := cb (fun h => h1 (eq_of_beq h)) (fun h => h2 (fun e => by rw [e, beq_self_eq_true] at h; cases h))
theorem cne {α : Type} [BEq α] [LawfulBEq α] {x y : α} (h1 : x ≠ y → A) (h2 : x = y → B) : cond (x != y) A B := cnot (ceq h2 h1)
end

/-! ### Strings -/
def sle (a b : ByteArray) : Bool := decide (a.data.toList ≤ b.data.toList)
/-- slices.Sort of strings. -/
def sortS (l : List ByteArray) : List ByteArray := ((l.map fun s => s.data.toList).mergeSort fun x y => decide (x ≤ y)).map fun s => ⟨s.toArray⟩
/-- slices.Sort of numbers. -/
def sortI (l : List Int) : List Int := ((l.map fun x => x).mergeSort fun x y => decide (x ≤ y)).map fun x => x

end Go.Proofs.Ytodjomdnlcledaa.X
