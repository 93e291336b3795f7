/- Operations on memory: loads, stores, addresses. -/
import Derived.Test.YtodjomdnlcledaaY4
namespace Go.Proofs.Ytodjomdnlcledaa.X
open Go Go.RowKit
set_option linter.unusedSimpArgs false
set_option linter.unusedVariables false

section
variable {Γ : Base} {s : St} {c : Ctx} {N : Nat} {a : Act} {w : World}

theorem tyB_some {P : Program} {t : TypeId} {u : Ty} (h : tyB P t u = true) : ∃ i d, P.info? t = some i ∧ i.size = u.size ∧ P.underlying t = some d ∧ aggOf d = u.isAgg := by
  unfold tyB szB at h
  simp only [Bool.and_eq_true] at h
  obtain ⟨h1, h2⟩ := h
  split at h1
  · rename_i i hi
    split at h2
    · rename_i d hd
      exact ⟨i, d, hi, by simpa using h1, hd, by simpa using h2⟩
    · cases h2
  · cases h1

theorem szB_some {P : Program} {t : TypeId} {n : Nat} (h : szB P t n = true) : ∃ i, P.info? t = some i ∧ i.size = n := by
  unfold szB at h
  split at h
  · rename_i i hi; exact ⟨i, hi, by simpa using h⟩
  · cases h

theorem oneB_some {P : Program} {t : TypeId} (h : oneB P t = true) : ∃ i d, P.info? t = some i ∧ i.size = 1 ∧ P.underlying t = some d ∧ aggOf d = false := by
  unfold oneB at h
  simp only [Bool.and_eq_true] at h
  obtain ⟨i, hi, hs⟩ := szB_some h.1
  have h2 := h.2
  split at h2
  · rename_i d hd; exact ⟨i, d, hi, hs, hd, by simpa using h2⟩
  · cases h2

theorem run_isAgg {P : Program} {t : TypeId} {d : TypeDesc} (h : P.underlying t = some d) (w : World) : (isAgg t).run P w = .ok (aggOf d) w := by
  unfold isAgg
  rw [Sem.run_bind, run_underlying h w]
  cases d <;> rfl

theorem run_sizeOf' {P : Program} {t : TypeId} {i : TypeInfo} (h : P.info? t = some i) (w : World) : (sizeOf t).run P w = .ok i.size w := by
  simp [sizeOf, typeInfo, h]

/-- A load of so many cells. -/
theorem load_run {P : Program} {t : TypeId} {n : Nat} {g : Bool} {i : TypeInfo} {d : TypeDesc} (hi : P.info? t = some i) (hs : i.size = n) (hd : P.underlying t = some d) (hg : aggOf d = g) (h1 : g = false → n = 1)
    (b o : Nat) (hall : ∀ j, j < n → ∃ cv, w.cell? ⟨b, o + j, none⟩ = some cv) :
    ∃ v, (∀ w', Ext w w' → (Instr.loadAt t (.pointer (some ⟨b, o, none⟩))).run P w' = .ok v w') ∧ (g = true → aggB v = true ∧ v.cells.size = n ∧ ∀ j, j < n → v.cells[j]? = w.cell? ⟨b, o + j, none⟩) ∧
      (g = false → w.cell? ⟨b, o, none⟩ = some v) := by
  cases g with
  | true =>
    let f : Nat → Value := fun j => (w.cell? ⟨b, o + j, none⟩).getD undef
    have hf : ∀ j, j < n → w.cell? ⟨b, o + j, none⟩ = some (f j) := fun j hj => by
      obtain ⟨cv, h⟩ := hall j hj; simp [f, h]
    have hf' : ∀ w', Ext w w' → ∀ j, j < n → w'.cell? ⟨b, o + j, none⟩ = some (f j) := fun w' hw' j hj => by
      rw [World.cell?_of_block (w := w) (hw' b (World.block_lt_of_cell? w _ (hf j hj)))]; exact hf j hj
    have hl := fun w' (hw' : Ext w w') => run_loadCells (P := P) w' ⟨b, o, none⟩ n f (fun j hj => by rw [Addr.add_mid]; exact hf' w' hw' j hj)
    refine ⟨.agg ((List.range n).map f).toArray, ?_, fun _ => ⟨rfl, by simp [Value.cells], fun j hj => ?_⟩, fun h => by cases h⟩
    · intro w' hw'; simp [Instr.loadAt, Instr.sureAddr, loadVar, run_isAgg hd, hg, run_sizeOf' hi, hs, hl w' hw']
    · rw [hf j hj]; simp [Value.cells, hj]
  | false =>
    have := h1 rfl
    subst this
    obtain ⟨cv, hc⟩ := hall 0 (by omega)
    refine ⟨cv, ?_, (fun h => by cases h), fun _ => by simpa using hc⟩
    intro w' hw'
    have hc' : w'.cell? ⟨b, o + 0, none⟩ = some cv := by rw [World.cell?_of_block (w := w) (hw' b (World.block_lt_of_cell? w _ hc))]; exact hc
    simp [Instr.loadAt, Instr.sureAddr, loadVar, run_isAgg hd, hg]
    rw [show (⟨b, o, none⟩ : Addr) = ⟨b, o + 0, none⟩ from rfl, hc']

theorem leaf_size {u : Ty} (h : u.isAgg = false) : u.size = 1 := by cases u <;> simp [Ty.isAgg] at h <;> rfl

/-- A load of a datum. -/
theorem load_data {P : Program} {t : TypeId} {u : Ty} (ht : tyB P t u = true) {S : BSet} {x : u.den} (b o : Nat) (h : CellsOf S w u x (fun j => w.cell? ⟨b, o + j, none⟩)) :
    ∃ v, (∀ w', Ext w w' → (Instr.loadAt t (.pointer (some ⟨b, o, none⟩))).run P w' = .ok v w') ∧ u.val S w x v := by
  obtain ⟨i, d, hi, hs, hd, hg⟩ := tyB_some ht
  obtain ⟨v, h1, h2, h3⟩ := load_run (w := w) hi hs hd hg (fun h => leaf_size h) b o (fun j hj => by obtain ⟨cv, k, _⟩ := h j hj; exact ⟨cv, k⟩)
  refine ⟨v, h1, ?_⟩
  cases hu : u.isAgg with
  | true =>
    obtain ⟨k1, k2, k3⟩ := h2 hu
    refine ⟨by rw [k1, hu], k2, fun j hj => ?_⟩
    obtain ⟨cv, m1, m2⟩ := h j hj
    exact ⟨cv, by rw [k3 j hj]; exact m1, m2⟩
  | false =>
    have k := h3 hu
    obtain ⟨cv, m1, m2⟩ := h 0 (by rw [leaf_size hu]; omega)
    have m1' : w.cell? ⟨b, o, none⟩ = some cv := m1
    rw [k] at m1'
    cases m1'
    exact Ty.val_of_cell hu m2

theorem cells_of (hw : RW Γ s.L c w) {id : Nat} {cs : List AV} (ho : s.L[id]? = some (.cells cs)) : ∃ b T cells, c.m id = .pointer (some ⟨b, 0, none⟩) ∧ w.heap[b]? = some (.cells cells T (0, 0)) ∧
    cells.size = (cs.map AV.size).sum ∧ RelCh s.L c w cs (fun j => cells[j]?) := hw.objs id _ ho

theorem RelCh_has {L : List AObj} {as : List AV} {f : Nat → Option Value} (h : RelCh L c w as f) : ∀ j, j < (as.map AV.size).sum → ∃ cv, f j = some cv := by
  induction as generalizing f with
  | nil => intro j hj; simp at hj
  | cons a as ih =>
    intro j hj
    obtain ⟨h1, h2⟩ := RelCh_one h
    by_cases hja : j < a.size
    · cases a <;> simp only [AV.size] at h1 hja <;> first
        | (obtain ⟨cv, k, _⟩ := h1 j hja; exact ⟨cv, k⟩)
        | (obtain ⟨cv, k, _⟩ := h1; have : j = 0 := by omega
           subst this; exact ⟨cv, k⟩)
    · obtain ⟨cv, k⟩ := ih h2 (j - a.size) (by simp at hj; omega)
      exact ⟨cv, by rw [show j = j - a.size + a.size by omega]; exact k⟩

theorem loadX_ok {E : Env} {ret : AV → Prop} {t : TypeId} {x : Operand} (hR : R Γ s c N a w) (h : loadX E t (evalO s x) s ret) :
    ∃ av v, ret av ∧ (∀ w', Ext w w' → (Instr.loadAt t (a.eval x)).run E.P w' = .ok v w') ∧ RelAV s.L c w av v := by
  have hx := evalO_rel hR x
  have fin : ∀ {av : AV} {v : Value}, ret av → (∀ w', Ext w w' → (Instr.loadAt t (a.eval x)).run E.P w' = .ok v w') → RelAV s.L c w av v → ∃ av v, ret av ∧ (∀ w', Ext w w' → (Instr.loadAt t (a.eval x)).run E.P w' = .ok v w') ∧ RelAV s.L c w av v :=
    fun hK hr hv => ⟨_, _, hK, hr, hv⟩
  unfold loadX at h
  split at h
  · -- an object's cell
    rename_i id off e
    rw [e] at hx
    simp only [RelAV] at hx
    obtain ⟨_, b, hm, hv⟩ := hx
    split at h
    · rename_i cs hL
      obtain ⟨b', T, cells, hm', hh, hsz, hch⟩ := cells_of hR.rw_ hL
      have : b' = b := by rw [hm] at hm'; simpa using hm'.symm
      subst this
      have cell : ∀ j, w.cell? ⟨b', j, none⟩ = cells[j]? := fun j => by simp [World.cell?, hh]
      split at h
      · rename_i u hu
        cases ht : tyB E.P t u with
        | false => rw [ht] at h; exact h.elim
        | true =>
          rw [ht] at h
          simp only [cond_true] at h
          split at h
          · rename_i p m q hmid
            obtain ⟨h1, h2, h3⟩ := midCh_some hmid
            rw [h1] at hch
            obtain ⟨_, k1⟩ := RelCh_split hch
            obtain ⟨k2, _⟩ := RelCh_split k1
            rw [h2] at k2
            obtain ⟨i, d, hi, hs, hd, hg⟩ := tyB_some ht
            obtain ⟨v, m1, m2, m3⟩ := load_run (w := w) hi hs hd hg (fun h => leaf_size h) b' off (fun j hj => by
              obtain ⟨cv, k⟩ := RelCh_has k2 j (by rw [h3]; exact hj)
              exact ⟨cv, by rw [cell, Nat.add_comm]; exact k⟩)
            refine fin h (by rw [hv]; exact m1) ?_
            cases hu' : u.isAgg with
            | true =>
              obtain ⟨n1, n2, n3⟩ := m2 hu'
              cases v with
              | agg us =>
                refine gather_agg hR.rw_ hu' h3 n2 (RelCh_congr k2 fun j hj => ?_)
                have := n3 j (by rw [← h3]; exact hj)
                simp only [Value.cells] at this
                rw [this, cell, Nat.add_comm]
              | _ => simp [aggB] at n1
            | false =>
              have n := m3 hu'
              rw [cell] at n
              exact gather_leaf hu' h3 k2 (by simpa using n)
          · exact h.elim
      · cases ht : oneB E.P t with
        | false => rw [ht] at h; exact h.elim
        | true =>
          rw [ht] at h
          simp only [cond_true] at h
          split at h
          · rename_i p y q hmid
            obtain ⟨h1, h2, h3⟩ := midCh_some hmid
            rw [h1] at hch
            obtain ⟨_, k1⟩ := RelCh_split hch
            obtain ⟨k2, _⟩ := RelCh_split k1
            rw [h2] at k2
            obtain ⟨i, d, hi, hs, hd, hg⟩ := oneB_some ht
            obtain ⟨v, m1, m2, m3⟩ := load_run (w := w) hi hs hd hg (fun _ => rfl) b' off (fun j hj => by
              obtain ⟨cv, k⟩ := RelCh_has k2 j (by rw [h3]; exact hj)
              exact ⟨cv, by rw [cell, Nat.add_comm]; exact k⟩)
            have n := m3 rfl
            rw [cell] at n
            exact fin h (by rw [hv]; exact m1) (leafOut_rel (by simpa using h3) k2 (by simpa using n))
          · exact h.elim
    · exact h.elim
  · -- memory that stays
    rename_i u y e
    rw [e] at hx
    simp only [RelAV] at hx
    obtain ⟨b, o', hv, hb, hc⟩ := hx
    cases ht : tyB E.P t u with
    | false => rw [ht] at h; exact h.elim
    | true =>
      rw [ht] at h
      obtain ⟨v, h1, h2⟩ := load_data ht b o' hc
      exact fin h (by rw [hv]; exact h1) (by simp only [RelAV]; exact h2)
  · -- a number of an array
    rename_i id off n k i e
    rw [e] at hx
    simp only [RelAV] at hx
    obtain ⟨_, h0, hn, b, hm, hv⟩ := hx
    cases ht : oneB E.P t with
    | false => rw [ht] at h; exact h.elim
    | true =>
      rw [ht] at h
      simp only [cond_true] at h
      split at h
      · rename_i cs hL
        obtain ⟨b', T, cells, hm', hh, hsz, hch⟩ := cells_of hR.rw_ hL
        have : b' = b := by rw [hm] at hm'; simpa using hm'.symm
        subst this
        split at h
        · rename_i p n' k' l q hmid
          obtain ⟨h1, h2, h3⟩ := midCh_some hmid
          rw [h1] at hch
          obtain ⟨_, k1⟩ := RelCh_split hch
          obtain ⟨k2, _⟩ := RelCh_split k1
          rw [h2] at k2
          cases hb : (Nat.beq n n' && decide (k = k')) with
          | false => rw [hb] at h; exact h.elim
          | true =>
            rw [hb] at h
            simp only [Bool.and_eq_true] at hb
            have e1 : n = n' := Nat.eq_of_beq_eq_true hb.1
            have e2 : k = k' := of_decide_eq_true hb.2
            subst e1; subst e2
            simp only [cond_true] at h
            obtain ⟨i', d, hi, hs, hd, hg⟩ := oneB_some ht
            obtain ⟨cv, m1, m2⟩ := (RelCh_one k2).1 i.toNat (by simp only [Ty.size]; omega)
            simp only [Ty.cell] at m2
            subst m2
            refine fin h (v := .int k (List.getD l i.toNat 0)) ?_ (rel_int _ _)
            rw [hv]
            have hc : w.cell? ⟨b', off + i.toNat, none⟩ = some (.int k (List.getD l i.toNat 0)) := by
              simp only [World.cell?, hh]
              simpa [Nat.add_comm] using m1
            intro w' hw'
            have hc' : w'.cell? ⟨b', off + i.toNat, none⟩ = some (.int k (List.getD l i.toNat 0)) := by rw [World.cell?_of_block (w := w) (hw' b' (World.block_lt_of_cell? w _ hc))]; exact hc
            simp [Instr.loadAt, Instr.sureAddr, loadVar, run_isAgg hd, hg, hc']
        · exact h.elim
      · exact h.elim
  · -- an element of a row
    rename_i id ver e i off he
    rw [he] at hx
    split at h
    · rename_i u hu
      cases ht : tyB E.P t u with
      | false => rw [ht] at h; exact h.elim
      | true =>
        rw [ht] at h
        simp only [cond_true] at h
        split at h
        · rename_i xs hrow
          split at h
          · rename_i y hsub
            obtain ⟨T, hL⟩ := rowData_some hrow
            simp only [RelAV, RowAt, hL] at hx
            obtain ⟨b, n, cap, hm, h0, hn, hv⟩ := hx.2 trivial
            have hr : RowRel c w (c.m id) T e xs := hR.rw_.objs id _ hL
            rcases hr with ⟨hr, _⟩ | ⟨b', cap', cells, hr, _, hle, hh, hsz, hcs⟩
            · rw [hm] at hr; cases hr
            · rw [hm] at hr
              simp only [Value.slice.injEq, Option.some.injEq, Addr.mk.injEq] at hr
              obtain ⟨⟨rfl, _, _⟩, rfl, rfl⟩ := hr
              have hi : i.toNat < xs.length := by omega
              have hget : xs[i.toNat]? = some (rd xs i) := by simp [rd, List.getD, hi]
              have hce : CellsOf c.S w e (rd xs i) (fun j => w.cell? ⟨b, i.toNat * e.size + j, none⟩) := fun j hj => by
                obtain ⟨cv, k1, k2⟩ := hcs i.toNat _ hget j hj
                exact ⟨cv, by simp [World.cell?, hh, k1], k2⟩
              obtain ⟨k1, _⟩ := subD_cells e _ off u y _ hce hsub
              obtain ⟨v, m1, m2⟩ := load_data ht b (i.toNat * e.size + off) (CellsOf.mono k1 (fun _ h => h) (fun j _ => by rw [Nat.add_assoc]))
              exact fin h (by rw [hv]; exact m1) (by simp only [RelAV]; exact m2)
          · exact h.elim
        · exact h.elim
    · exact h.elim
  · exact h.elim

theorem op_load {E : Env} {o : Oper} {K : St → Prop} {t : TypeId} {x : Operand} (ho : o.op = .load t x) (hR : R Γ s c E.N a w) (h : opX E o s K) : PlainOk E o s c a w K := by
  unfold opX at h; rw [ho] at h; simp only at h
  obtain ⟨av, v, hK, hr, hv⟩ := loadX_ok hR h
  refine OpOk.value hR hK (fun w' hw' => ?_) hv
  unfold execOp; rw [ho]; simp [hr w' hw']
end

end Go.Proofs.Ytodjomdnlcledaa.X
