/- The codes of data types, their Lean types, and how data lies in memory. -/
import Derived.Calls
import Derived.Orders
import Derived.Below
namespace Go.Proofs.Ytodjomdnlcledaa.X
open Go Go.RowKit
set_option linter.unusedVariables false
set_option linter.unusedSimpArgs false

/-- A set of blocks. -/
abbrev BSet := Nat → Prop

inductive Ty where
  | int (k : IntKind) | bool | str
  | arr (n : Nat) (k : IntKind)
  | slice (e : Ty) | ref (t : Ty)
  | pair (a b : Ty) | unit
  deriving DecidableEq

/-- The Lean type of a data type. -/
abbrev Ty.den : Ty → Type
  | .int _ => Int
  | .bool => Bool
  | .str => ByteArray
  | .arr _ _ => List Int
  | .slice e => List e.den
  | .ref t => Option t.den
  | .pair a b => a.den × b.den
  | .unit => Unit

/-- How many cells it takes. -/
def Ty.size : Ty → Nat
  | .arr n _ => n
  | .pair a b => a.size + b.size
  | .unit => 0
  | _ => 1

/-- What it is before anything is laid in it. -/
def Ty.dflt : (t : Ty) → t.den
  | .int _ => (0 : Int)
  | .bool => false
  | .str => (ByteArray.empty : ByteArray)
  | .arr n _ => List.replicate n (0 : Int)
  | .slice e => ([] : List e.den)
  | .ref t => (none : Option t.den)
  | .pair a b => (a.dflt, b.dflt)
  | .unit => ()

/-- Nothing of it lies elsewhere in memory. -/
def Ty.flat : Ty → Bool
  | .slice _ => false
  | .ref _ => false
  | .pair a b => a.flat && b.flat
  | _ => true

/-- Its value is an aggregate. -/
def Ty.isAgg : Ty → Bool
  | .arr _ _ => true
  | .pair _ _ => true
  | .unit => true
  | _ => false

/-- Elements that lie one behind the other. -/
def SliceAt (S : BSet) (w : World) (sz : Nat) {α : Type} (R : α → Nat → Value → Prop) (xs : List α) (v : Value) : Prop :=
  ∃ a cap, v = .slice a xs.length cap ∧ xs.length ≤ cap ∧ (a = none → cap = 0) ∧ (xs ≠ [] → ∃ b o, a = some ⟨b, o, none⟩ ∧ S b ∧
    ∀ i x, xs[i]? = some x → ∀ j, j < sz → ∃ c, w.cell? ⟨b, o + (i * sz + j), none⟩ = some c ∧ R x j c)

def RefAt (S : BSet) (w : World) (sz : Nat) {α : Type} (R : α → Nat → Value → Prop) (x : Option α) (v : Value) : Prop :=
  match x with
  | none => v = .pointer none
  | some x => ∃ b o, v = .pointer (some ⟨b, o, none⟩) ∧ S b ∧ ∀ j, j < sz → ∃ c, w.cell? ⟨b, o + j, none⟩ = some c ∧ R x j c

/-- Cell j of a datum holds this value; all that it leads to lies in blocks of S. -/
def Ty.cell (S : BSet) (w : World) : (t : Ty) → t.den → Nat → Value → Prop
  | .int k, x, _, c => c = .int k x
  | .bool, x, _, c => c = .bool x
  | .str, x, _, c => c = .string x
  | .arr _ k, l, j, c => c = .int k (List.getD (l : List Int) j 0)
  | .slice e, xs, _, c => SliceAt S w e.size (fun x j c => Ty.cell S w e x j c) xs c
  | .ref t, o, _, c => RefAt S w t.size (fun x j c => Ty.cell S w t x j c) o c
  | .pair a b, x, j, c => if j < a.size then Ty.cell S w a x.1 j c else Ty.cell S w b x.2 (j - a.size) c
  | .unit, _, _, _ => False

def aggB : Value → Bool | .agg _ => true | _ => false

/-- A value holds a datum. -/
def Ty.val (S : BSet) (w : World) (t : Ty) (x : t.den) (v : Value) : Prop :=
  aggB v = t.isAgg ∧ v.cells.size = t.size ∧ ∀ j, j < t.size → ∃ c, v.cells[j]? = some c ∧ t.cell S w x j c

theorem SliceAt.mono {S S' : BSet} {w w' : World} {sz : Nat} {α : Type} {R R' : α → Nat → Value → Prop} {xs : List α} {v : Value}
    (h : SliceAt S w sz R xs v) (hS : ∀ b, S b → S' b) (hw : ∀ b, S b → w'.heap[b]? = w.heap[b]?) (hR : ∀ x j c, R x j c → R' x j c) : SliceAt S' w' sz R' xs v := by
  obtain ⟨a, cap, hv, hc, hz, h⟩ := h
  refine ⟨a, cap, hv, hc, hz, fun hne => ?_⟩
  obtain ⟨b, o, ha, hb, h⟩ := h hne
  refine ⟨b, o, ha, hS b hb, fun i x hx j hj => ?_⟩
  obtain ⟨c, h1, h2⟩ := h i x hx j hj
  exact ⟨c, by rw [World.cell?_of_block (w := w) (hw b hb)]; exact h1, hR _ _ _ h2⟩

theorem RefAt.mono {S S' : BSet} {w w' : World} {sz : Nat} {α : Type} {R R' : α → Nat → Value → Prop} {x : Option α} {v : Value}
    (h : RefAt S w sz R x v) (hS : ∀ b, S b → S' b) (hw : ∀ b, S b → w'.heap[b]? = w.heap[b]?) (hR : ∀ x j c, R x j c → R' x j c) : RefAt S' w' sz R' x v := by
  cases x with
  | none => exact h
  | some x =>
    obtain ⟨b, o, hv, hb, h⟩ := h
    refine ⟨b, o, hv, hS b hb, fun j hj => ?_⟩
    obtain ⟨c, h1, h2⟩ := h j hj
    exact ⟨c, by rw [World.cell?_of_block (w := w) (hw b hb)]; exact h1, hR _ _ _ h2⟩

theorem Ty.cell_mono {S S' : BSet} {w w' : World} (hS : ∀ b, S b → S' b) (hw : ∀ b, S b → w'.heap[b]? = w.heap[b]?) :
    ∀ (t : Ty) (x : t.den) (j : Nat) (c : Value), t.cell S w x j c → t.cell S' w' x j c
  | .int _, _, _, _, h => h
  | .bool, _, _, _, h => h
  | .str, _, _, _, h => h
  | .arr _ _, _, _, _, h => h
  | .slice e, _, _, _, h => SliceAt.mono h hS hw (fun x j c => Ty.cell_mono hS hw e x j c)
  | .ref t, _, _, _, h => RefAt.mono h hS hw (fun x j c => Ty.cell_mono hS hw t x j c)
  | .pair a b, x, j, c, h => by
    simp only [Ty.cell] at h ⊢
    split
    · rename_i hj; rw [if_pos hj] at h; exact Ty.cell_mono hS hw a _ _ _ h
    · rename_i hj; rw [if_neg hj] at h; exact Ty.cell_mono hS hw b _ _ _ h
  | .unit, _, _, _, h => h

theorem Ty.val_mono {S S' : BSet} {w w' : World} (hS : ∀ b, S b → S' b) (hw : ∀ b, S b → w'.heap[b]? = w.heap[b]?) {t : Ty} {x : t.den} {v : Value}
    (h : t.val S w x v) : t.val S' w' x v :=
  ⟨h.1, h.2.1, fun j hj => let ⟨c, h1, h2⟩ := h.2.2 j hj; ⟨c, h1, Ty.cell_mono hS hw t x j c h2⟩⟩

/-- What lies nowhere else hangs on no memory. -/
theorem Ty.cell_flat {S S' : BSet} {w w' : World} : ∀ (t : Ty), t.flat = true → ∀ (x : t.den) (j : Nat) (c : Value), t.cell S w x j c → t.cell S' w' x j c
  | .int _, _, _, _, _, h => h
  | .bool, _, _, _, _, h => h
  | .str, _, _, _, _, h => h
  | .arr _ _, _, _, _, _, h => h
  | .slice _, hf, _, _, _, _ => by simp [Ty.flat] at hf
  | .ref _, hf, _, _, _, _ => by simp [Ty.flat] at hf
  | .pair a b, hf, x, j, c, h => by
    simp only [Ty.flat, Bool.and_eq_true] at hf
    simp only [Ty.cell] at h ⊢
    split
    · rename_i hj; rw [if_pos hj] at h; exact Ty.cell_flat a hf.1 _ _ _ h
    · rename_i hj; rw [if_neg hj] at h; exact Ty.cell_flat b hf.2 _ _ _ h
  | .unit, _, _, _, _, h => h

theorem Ty.val_flat {S S' : BSet} {w w' : World} {t : Ty} (hf : t.flat = true) {x : t.den} {v : Value} (h : t.val S w x v) : t.val S' w' x v :=
  ⟨h.1, h.2.1, fun j hj => let ⟨c, h1, h2⟩ := h.2.2 j hj; ⟨c, h1, Ty.cell_flat t hf x j c h2⟩⟩

/-- Values of one cell. -/
theorem Ty.val_one {S : BSet} {w : World} {t : Ty} {x : t.den} {v : Value} (ht : t.isAgg = false) (h : t.val S w x v) : t.cell S w x 0 v := by
  obtain ⟨h1, h2, h3⟩ := h
  have hs : t.size = 1 := by cases t <;> simp [Ty.isAgg] at ht <;> rfl
  obtain ⟨c, hc, hr⟩ := h3 0 (by omega)
  have hv : v.cells = #[v] := by cases v <;> first | rfl | (simp [aggB, ht] at h1)
  rw [hv] at hc
  have : c = v := by simpa using hc.symm
  exact this ▸ hr

theorem Ty.val_of_cell {S : BSet} {w : World} {t : Ty} {x : t.den} {v : Value} (ht : t.isAgg = false) (h : t.cell S w x 0 v) : t.val S w x v := by
  have hs : t.size = 1 := by cases t <;> simp [Ty.isAgg] at ht <;> rfl
  have hv : aggB v = false := by
    cases t <;> simp [Ty.isAgg] at ht <;> simp only [Ty.cell] at h
    · rw [h]; rfl
    · rw [h]; rfl
    · rw [h]; rfl
    · obtain ⟨a, cap, h, _⟩ := h; rw [h]; rfl
    · rename_i t; cases x with
      | none => rw [show v = .pointer none from h]; rfl
      | some x => obtain ⟨b, o, h, _⟩ := h; rw [h]; rfl
  have hc : v.cells = #[v] := by cases v <;> first | rfl | (simp [aggB] at hv)
  refine ⟨by rw [hv, ht], by rw [hc, hs]; rfl, fun j hj => ⟨v, ?_, ?_⟩⟩
  · have : j = 0 := by omega
    subst this; rw [hc]; rfl
  · have : j = 0 := by omega
    subst this; exact h

end Go.Proofs.Ytodjomdnlcledaa.X
