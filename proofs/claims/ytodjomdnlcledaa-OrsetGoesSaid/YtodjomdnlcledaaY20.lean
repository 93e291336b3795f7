/- Structs of plain data are held against each other as data are. -/
import Derived.Test.YtodjomdnlcledaaY16
import Derived.DeepKeys3
namespace Go.Proofs.Ytodjomdnlcledaa.X
open Go Go.RowKit
set_option linter.unusedSimpArgs false
set_option linter.unusedVariables false

def eqFieldsB (rd : TypeId → Ty → Bool) (sz : TypeId → Nat → Bool) : List Field → Nat → Ty → Bool
  | [], _, _ => false
  | [f], off, u => f.name != "_" && Nat.beq f.offset off && sz f.type u.size && rd f.type u
  | f :: g :: r, off, .pair a b => f.name != "_" && Nat.beq f.offset off && sz f.type a.size && rd f.type a && eqFieldsB rd sz (g :: r) (off + a.size) b
  | _, _, _ => false

/-- Types whose values are held against each other part by part. -/
def eqvB (P : Program) : Nat → TypeId → Ty → Bool
  | 0, _, _ => false
  | n + 1, t, u => match P.underlying t, u with
    | some (.int k), .int k' => decide (k = k')
    | some .bool, .bool => true
    | some .string, .str => true
    | some (.struct fs), u => u.isAgg && szB P t u.size && !P.stoodInHeld t && eqFieldsB (eqvB P n) (szB P) fs.toList 0 u
    | _, _ => false

section
variable {P : Program} {w : World} {S : BSet}

theorem sizeOf_run {t : TypeId} {n : Nat} (h : szB P t n = true) (w : World) : (Go.sizeOf t).run P w = .ok n w := by
  unfold szB at h
  split at h
  · rename_i i hi
    rw [run_sizeOf' hi, Nat.eq_of_beq_eq_true h]
  · cases h

/-- The part of a struct's cells that holds a datum. -/
theorem part_val {t : TypeId} {u : Ty} {x : u.den} {cs : Array Value} {off : Nat} {n : Nat} (hv : eqvB P n t u = true) (hz : szB P t u.size = true) (hlen : off + u.size ≤ cs.size)
    (hc : ∀ j, j < u.size → ∃ c, cs[off + j]? = some c ∧ u.cell S w x j c) : ∃ v, (∀ w', (part t cs off).run P w' = .ok v w') ∧ u.val S w x v := by
  cases n with
  | zero => simp [eqvB] at hv
  | succ n =>
    have one : ∀ d, P.underlying t = some d → aggOf d = false → u.size = 1 → u.isAgg = false → ∃ v, (∀ w', (part t cs off).run P w' = .ok v w') ∧ u.val S w x v := by
      intro d hd ha hs hu
      obtain ⟨c, h1, h2⟩ := hc 0 (by omega)
      refine ⟨c, fun w' => ?_, Ty.val_of_cell hu h2⟩
      unfold part
      simp only [Sem.run_bind, run_isAgg hd, ha, Result.andThen_ok, Bool.false_eq_true, if_false]
      rw [Nat.add_zero] at h1
      rw [h1]; rfl
    unfold eqvB at hv
    split at hv
    · rename_i hu; exact one _ hu rfl rfl rfl
    · rename_i hu; exact one _ hu rfl rfl rfl
    · rename_i hu; exact one _ hu rfl rfl rfl
    · rename_i u x0 u1 fs hu
      simp only [Bool.and_eq_true] at hv
      refine ⟨.agg (cs.extract off (off + u.size)), fun w' => ?_, ?_, ?_, fun j hj => ?_⟩
      · unfold part
        simp only [Sem.run_bind, run_isAgg hu, aggOf, Result.andThen_ok, if_true, sizeOf_run hz, Sem.run_pure]
      · rw [hv.1.1.1]; rfl
      · simp only [Value.cells, Array.size_extract]; omega
      · obtain ⟨c, h1, h2⟩ := hc j hj
        refine ⟨c, ?_, h2⟩
        simp only [Value.cells]
        rw [Array.getElem?_extract]
        rw [if_pos (by omega)]
        exact h1
    · cases hv

theorem struct_agg {u : Ty} {x : u.den} {v : Value} (hu : u.isAgg = true) (h : u.val S w x v) : ∃ cs, v = .agg cs ∧ cs.size = u.size ∧ ∀ j, j < u.size → ∃ c, cs[j]? = some c ∧ u.cell S w x j c := by
  obtain ⟨h1, h2, h3⟩ := h
  rw [hu] at h1
  cases v <;> simp [aggB] at h1
  rename_i cs
  exact ⟨cs, rfl, by simpa [Value.cells] using h2, fun j hj => by simpa [Value.cells] using h3 j hj⟩

theorem fieldsOf_eq {t : TypeId} {fs : Array Field} (h : P.underlying t = some (.struct fs)) : P.fieldsOf t = fs := by
  unfold Program.fieldsOf; rw [h]

theorem eqFields_ok {n d : Nat} (ih : ∀ (t : TypeId) (u : Ty), eqvB P n t u = true → ∀ (x y : u.den) (vx vy : Value), u.val S w x vx → u.val S w y vy → (Op.equalIn d t vx vy).run P w = .ok (eqD u x y) w) (xs ys : Array Value) :
    ∀ (fs : List Field) (off : Nat) (u : Ty) (x y : u.den), eqFieldsB (eqvB P n) (szB P) fs off u = true → off + u.size ≤ xs.size → off + u.size ≤ ys.size →
      (∀ j, j < u.size → ∃ c, xs[off + j]? = some c ∧ u.cell S w x j c) → (∀ j, j < u.size → ∃ c, ys[off + j]? = some c ∧ u.cell S w y j c) →
      (Op.eqFields d xs ys fs).run P w = .ok (eqD u x y) w
  | [], off, u, x, y, h, _, _, _, _ => by simp [eqFieldsB] at h
  | [f], off, u, x, y, h, hx, hy, hcx, hcy => by
    simp only [eqFieldsB, Bool.and_eq_true] at h
    obtain ⟨⟨⟨h0, h1⟩, h2⟩, h3⟩ := h
    have ho := Nat.eq_of_beq_eq_true h1
    obtain ⟨vx, px, qx⟩ := part_val h3 h2 hx hcx
    obtain ⟨vy, py, qy⟩ := part_val h3 h2 hy hcy
    have hn : f.name ≠ "_" := by simpa using h0
    simp only [Op.eqFields, if_pos hn, Sem.run_bind, ho, px, py, Result.andThen_ok, ih f.type u h3 x y vx vy qx qy]
    cases eqD u x y <;> simp
  | f :: g :: r, off, u, x, y, h, hx, hy, hcx, hcy => by
    cases u with
    | pair a b =>
      simp only [eqFieldsB, Bool.and_eq_true] at h
      obtain ⟨⟨⟨⟨h0, h1⟩, h2⟩, h3⟩, h4⟩ := h
      have ho := Nat.eq_of_beq_eq_true h1
      simp only [Ty.size] at hx hy hcx hcy
      have cut1 : ∀ (cs : Array Value) (z : a.den × b.den), (∀ j, j < a.size + b.size → ∃ c, cs[off + j]? = some c ∧ Ty.cell S w (.pair a b) z j c) → ∀ j, j < a.size → ∃ c, cs[off + j]? = some c ∧ a.cell S w z.1 j c := fun cs z hz j hj => by
        obtain ⟨c, k1, k2⟩ := hz j (by omega)
        simp only [Ty.cell, if_pos hj] at k2
        exact ⟨c, k1, k2⟩
      have cut2 : ∀ (cs : Array Value) (z : a.den × b.den), (∀ j, j < a.size + b.size → ∃ c, cs[off + j]? = some c ∧ Ty.cell S w (.pair a b) z j c) → ∀ j, j < b.size → ∃ c, cs[off + a.size + j]? = some c ∧ b.cell S w z.2 j c := fun cs z hz j hj => by
        obtain ⟨c, k1, k2⟩ := hz (a.size + j) (by omega)
        simp only [Ty.cell, if_neg (show ¬ a.size + j < a.size by omega), show a.size + j - a.size = j by omega] at k2
        exact ⟨c, by rw [Nat.add_assoc]; exact k1, k2⟩
      obtain ⟨vx, px, qx⟩ := part_val h3 h2 (by omega) (cut1 xs x hcx)
      obtain ⟨vy, py, qy⟩ := part_val h3 h2 (by omega) (cut1 ys y hcy)
      have hn : f.name ≠ "_" := by simpa using h0
      have rest := eqFields_ok ih xs ys (g :: r) (off + a.size) b x.2 y.2 h4 (by omega) (by omega) (cut2 xs x hcx) (cut2 ys y hcy)
      rw [Op.eqFields, if_pos hn]
      simp only [Sem.run_bind, ho, px, py, Result.andThen_ok, ih f.type a h3 x.1 y.1 vx vy qx qy]
      simp only [eqD]
      cases eqD a x.1 y.1 with
      | false => simp
      | true => simpa using rest
    | _ => simp [eqFieldsB] at h

theorem equalIn_ok : ∀ (n : Nat) (t : TypeId) (u : Ty), eqvB P n t u = true → ∀ (d : Nat) (x y : u.den) (vx vy : Value), n ≤ d → u.val S w x vx → u.val S w y vy → (Op.equalIn d t vx vy).run P w = .ok (eqD u x y) w
  | 0, t, u, h, _, _, _, _, _, _, _, _ => by simp [eqvB] at h
  | n + 1, t, u, h, d, x, y, vx, vy, hd, hx, hy => by
    obtain ⟨d, rfl⟩ : ∃ e, d = e + 1 := ⟨d - 1, by omega⟩
    unfold eqvB at h
    split at h
    · rename_i k k' hu
      have := of_decide_eq_true h
      subst this
      have h1 : vx = .int k x := Ty.val_one rfl hx
      have h2 : vy = .int k y := Ty.val_one rfl hy
      rw [h1, h2, run_equalIn_int w d t k k x y hu]; rfl
    · rename_i hu
      have h1 : vx = .bool x := Ty.val_one rfl hx
      have h2 : vy = .bool y := Ty.val_one rfl hy
      rw [h1, h2, run_equalIn_bool w d t x y hu]; rfl
    · rename_i hu
      have h1 : vx = .string x := Ty.val_one rfl hx
      have h2 : vy = .string y := Ty.val_one rfl hy
      rw [h1, h2, run_equalIn_string w d t x y hu, beq_toList]; rfl
    · rename_i fs hu
      simp only [Bool.and_eq_true, Bool.not_eq_true'] at h
      obtain ⟨⟨⟨h1, h2⟩, h3⟩, h4⟩ := h
      obtain ⟨xs, rfl, k1, k2⟩ := struct_agg h1 hx
      obtain ⟨ys, rfl, l1, l2⟩ := struct_agg h1 hy
      have hf := fieldsOf_eq hu
      rw [run_equalIn_agg w d t xs ys (by rw [hf]; exact hu) h3, hf]
      exact eqFields_ok (fun t u hb x y vx vy hx hy => equalIn_ok n t u hb d x y vx vy (by omega) hx hy) xs ys fs.toList 0 _ x y h4 (by omega) (by omega) (fun j hj => by simpa using k2 j hj) (fun j hj => by simpa using l2 j hj)
    · cases h

theorem checkFields_ok {n d : Nat} {e : Bool} (ih : ∀ (t : TypeId) (u : Ty), eqvB P n t u = true → ∀ (x : u.den) (vx : Value), u.val S w x vx → (Instr.checkKey e d t vx).run P w = .ok () w) (xs : Array Value) :
    ∀ (fs : List Field) (off : Nat) (u : Ty) (x : u.den), eqFieldsB (eqvB P n) (szB P) fs off u = true → off + u.size ≤ xs.size →
      (∀ j, j < u.size → ∃ c, xs[off + j]? = some c ∧ u.cell S w x j c) →
      (forIn fs PUnit.unit fun f (_ : PUnit) => if f.name ≠ "_" then (do
          let p ← part f.type xs f.offset
          Instr.checkKey e d f.type p
          pure (ForInStep.yield PUnit.unit)) else pure (ForInStep.yield PUnit.unit) : Sem PUnit).run P w = .ok () w
  | [], off, u, x, h, _, _ => by simp [eqFieldsB] at h
  | [f], off, u, x, h, hx, hcx => by
    simp only [eqFieldsB, Bool.and_eq_true] at h
    obtain ⟨⟨⟨h0, h1⟩, h2⟩, h3⟩ := h
    have ho := Nat.eq_of_beq_eq_true h1
    obtain ⟨vx, px, qx⟩ := part_val h3 h2 hx hcx
    have hn : f.name ≠ "_" := by simpa using h0
    simp [hn, ho, px, Result.andThen, ih f.type u h3 x vx qx]
  | f :: g :: r, off, u, x, h, hx, hcx => by
    cases u with
    | pair a b =>
      simp only [eqFieldsB, Bool.and_eq_true] at h
      obtain ⟨⟨⟨⟨h0, h1⟩, h2⟩, h3⟩, h4⟩ := h
      have ho := Nat.eq_of_beq_eq_true h1
      simp only [Ty.size] at hx hcx
      obtain ⟨vx, px, qx⟩ := part_val h3 h2 (x := x.1) (cs := xs) (off := off) (by omega) (fun j hj => by
        obtain ⟨c, k1, k2⟩ := hcx j (by omega)
        simp only [Ty.cell, if_pos hj] at k2
        exact ⟨c, k1, k2⟩)
      have hn : f.name ≠ "_" := by simpa using h0
      have rest := checkFields_ok (e := e) ih xs (g :: r) (off + a.size) b x.2 h4 (by omega) (fun j hj => by
        obtain ⟨c, k1, k2⟩ := hcx (a.size + j) (by omega)
        simp only [Ty.cell, if_neg (show ¬ a.size + j < a.size by omega), show a.size + j - a.size = j by omega] at k2
        exact ⟨c, by rw [Nat.add_assoc]; exact k1, k2⟩)
      rw [List.forIn_cons]
      rw [if_pos hn]
      simp only [Sem.run_bind, ho, px, Result.andThen_ok, ih f.type a h3 x.1 vx qx, Sem.run_pure]
      exact rest
    | _ => simp [eqFieldsB] at h

theorem checkKey_ok (e : Bool) : ∀ (n : Nat) (t : TypeId) (u : Ty), eqvB P n t u = true → ∀ (d : Nat) (x : u.den) (vx : Value), n ≤ d → u.val S w x vx → (Instr.checkKey e d t vx).run P w = .ok () w
  | 0, t, u, h, _, _, _, _, _ => by simp [eqvB] at h
  | n + 1, t, u, h, d, x, vx, hd, hx => by
    obtain ⟨d, rfl⟩ : ∃ e, d = e + 1 := ⟨d - 1, by omega⟩
    unfold eqvB at h
    split at h
    · rename_i k k' hu
      have h1 : vx = .int k' x := Ty.val_one rfl hx
      rw [h1]; simp [Instr.checkKey, run_underlying hu]
    · rename_i hu
      have h1 : vx = .bool x := Ty.val_one rfl hx
      rw [h1]; simp [Instr.checkKey, run_underlying hu]
    · rename_i hu
      have h1 : vx = .string x := Ty.val_one rfl hx
      rw [h1]; simp [Instr.checkKey, run_underlying hu]
    · rename_i fs hu
      simp only [Bool.and_eq_true, Bool.not_eq_true'] at h
      obtain ⟨⟨⟨h1, h2⟩, h3⟩, h4⟩ := h
      obtain ⟨xs, rfl, k1, k2⟩ := struct_agg h1 hx
      have := checkFields_ok (e := e) (fun t u hb x vx hx => checkKey_ok e n t u hb d x vx (by omega) hx) xs fs.toList 0 _ x h4 (by omega) (fun j hj => by simpa using k2 j hj)
      simp only [Instr.checkKey, Sem.run_bind, run_underlying hu, Result.andThen_ok]
      rw [← Array.forIn_toList]
      exact (congrArg (fun r : Result PUnit => r.andThen fun a w' => Sem.run P (pure ()) w') this).trans rfl
    · cases h

/-- The book's word on '==' is sound where the check says so. -/
theorem eqvOk_of {b : Book} (h : ∀ t u, b.eqv t u = true → eqvB b.P 20 t u = true ∧ u.isAgg = true ∧ b.P.eqGuardType b.P.depth t = false) : EqvOk (envX b 0 0) := by
  intro t u hb S w x y vx vy hx hy
  obtain ⟨h1, h2, h3⟩ := h t u hb
  have heq : (Op.equal t vx vy).run b.P w = .ok (eqD u x y) w := equalIn_ok 20 t u h1 10000 x y vx vy (by omega) hx hy
  obtain ⟨xs, rfl, _, _⟩ := struct_agg h2 hx
  obtain ⟨ys, rfl, _, _⟩ := struct_agg h2 hy
  refine ⟨fun e => checkKey_ok e 20 t u h1 10000 x _ (by omega) hx, heq, fun ox oy => ⟨run_eqGuard_agg w .eql t ox oy xs ys h3, run_eqGuard_agg w .neq t ox oy xs ys h3, ?_, ?_⟩⟩
  · have := run_eql_struct (P := b.P) w t xs ys
    have e : (Op.equalIn 10000 t (.agg xs) (.agg ys)).run b.P w = .ok (eqD u x y) w := heq
    rw [e] at this
    exact this
  · have := run_neq_struct (P := b.P) w t xs ys
    have e : (Op.equalIn 10000 t (.agg xs) (.agg ys)).run b.P w = .ok (eqD u x y) w := heq
    rw [e] at this
    exact this
end
end Go.Proofs.Ytodjomdnlcledaa.X
