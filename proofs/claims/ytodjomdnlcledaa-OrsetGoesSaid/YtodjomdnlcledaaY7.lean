/- Operations on memory: addresses of parts, zeros, structs put together. -/
import Derived.Test.YtodjomdnlcledaaY6
import Derived.Laws.Tables
namespace Go.Proofs.Ytodjomdnlcledaa.X
open Go Go.RowKit
set_option linter.unusedSimpArgs false
set_option linter.unusedVariables false

section
variable {Γ : Base} {s : St} {c : Ctx} {N : Nat} {a : Act} {w : World}

theorem op_nilCheck {E : Env} {o : Oper} {K : St → Prop} {x : Operand} (ho : o.op = .nilCheck x) (hR : R Γ s c E.N a w) (h : opX E o s K) : PlainOk E o s c a w K := by
  have hx := evalO_rel hR x
  unfold opX at h; rw [ho] at h; simp only at h
  have fin : ∀ {av : AV} {p : Addr}, putX E o.dst K av s → a.eval x = .pointer (some p) → RelAV s.L c w av (.pointer (some p)) → PlainOk E o s c a w K := by
    intro av p hK hv hrel
    refine OpOk.value hR hK (fun w' _ => ?_) hrel
    unfold execOp; rw [ho]; simp only [hv]; rfl
  split at h
  · rename_i t o' e
    rw [e] at hx
    split at h
    · rename_i y
      simp only [RelAV] at hx
      obtain ⟨b, off, hv, hb, hc⟩ := Ty.val_one (t := .ref t) rfl hx
      exact fin h hv (by simp only [RelAV]; exact ⟨b, off, rfl, hb, hc⟩)
    · exact h.elim
  · rename_i id off e
    rw [e] at hx
    have hx' := hx
    simp only [RelAV] at hx
    obtain ⟨_, b, _, hv⟩ := hx
    rw [hv] at hx'
    exact fin h hv hx'
  · rename_i t y e
    rw [e] at hx
    have hx' := hx
    simp only [RelAV] at hx
    obtain ⟨b, off, hv, _⟩ := hx
    rw [hv] at hx'
    exact fin h hv hx'
  · rename_i id ver e i off he
    rw [he] at hx
    have hx' := hx
    cases hlive : rowData s.L id ver e with
    | none => rw [hlive] at h; exact h.elim
    | some xs =>
      rw [hlive] at h
      obtain ⟨T, hL⟩ := rowData_some hlive
      simp only [RelAV, RowAt, hL] at hx
      obtain ⟨b, n, cap, hm, h0, hn, hv⟩ := hx.2 trivial
      rw [hv] at hx'
      exact fin h hv hx'
  · exact h.elim

theorem fieldOf_some {P : Program} {t : TypeId} {f : Nat} {fl : Field} (h : fieldOf P t f = some fl) : ∃ fs, P.underlying t = some (.struct fs) ∧ fs[f]? = some fl := by
  unfold fieldOf at h
  split at h
  · rename_i fs hu; exact ⟨fs, hu, h⟩
  · cases h

theorem nzB_some {P : Program} {t : TypeId} (h : nzB P t = true) : ∃ i, P.info? t = some i ∧ i.size ≠ 0 := by
  unfold nzB at h
  split at h
  · rename_i i hi; exact ⟨i, hi, by have : 0 < i.size := by simpa [Nat.blt_eq] using h
                                    omega⟩
  · cases h

theorem fieldAt_run {P : Program} {w : World} {t : TypeId} {f : Nat} {fl : Field} (h : fieldOf P t f = some fl) (hz : nzB P fl.type = true) (b o : Nat) :
    (Instr.fieldAt t (.pointer (some ⟨b, o, none⟩)) f).run P w = .ok (.pointer (some ⟨b, o + fl.offset, none⟩)) w := by
  obtain ⟨fs, hu, hf⟩ := fieldOf_some h
  obtain ⟨i, hi, hne⟩ := nzB_some hz
  simp [Instr.fieldAt, Instr.sureAddr, run_underlying hu, hf, fieldPlace, run_sizeOf' hi, hne, Addr.add_mid]

theorem op_fieldAddr {E : Env} {o : Oper} {K : St → Prop} {t : TypeId} {x : Operand} {f : Nat} (ho : o.op = .fieldAddr t x f) (hR : R Γ s c E.N a w) (h : opX E o s K) : PlainOk E o s c a w K := by
  have hx := evalO_rel hR x
  unfold opX at h; rw [ho] at h; simp only at h
  split at h
  · rename_i fl hfl
    have fin : ∀ {av : AV} {b off : Nat}, putX E o.dst K av s → nzB E.P fl.type = true → a.eval x = .pointer (some ⟨b, off, none⟩) → RelAV s.L c w av (.pointer (some ⟨b, off + fl.offset, none⟩)) → PlainOk E o s c a w K := by
      intro av b off hK hz hv hrel
      refine OpOk.value hR hK (fun w' _ => ?_) hrel
      unfold execOp; rw [ho]; simp [hv, fieldAt_run hfl hz]
    split at h
    · rename_i id off e
      rw [e] at hx
      simp only [RelAV] at hx
      obtain ⟨h1, b, hm, hv⟩ := hx
      cases hz : nzB E.P fl.type with
      | false => rw [hz] at h; exact h.elim
      | true => rw [hz] at h; exact fin h hz hv (by simp only [RelAV]; exact ⟨h1, b, hm, rfl⟩)
    · rename_i id ver e i off he
      rw [he] at hx
      cases hz : nzB E.P fl.type with
      | false => rw [hz] at h; exact h.elim
      | true =>
        rw [hz] at h
        simp only [cond_true] at h
        cases hlive : rowData s.L id ver e with
        | none => rw [hlive] at h; exact h.elim
        | some xs =>
          rw [hlive] at h
          obtain ⟨T, hL⟩ := rowData_some hlive
          simp only [RelAV, RowAt, hL] at hx
          obtain ⟨b, n, cap, hm, h0, hn, hv⟩ := hx.2 trivial
          refine fin h hz hv ?_
          simp only [RelAV, RowAt, hL]
          exact ⟨Nat.le_refl _, fun _ => ⟨b, n, cap, hm, h0, hn, by rw [Nat.add_assoc]⟩⟩
    · rename_i u y e
      rw [e] at hx
      simp only [RelAV] at hx
      obtain ⟨b, off, hv, hb, hc⟩ := hx
      split at h
      · rename_i v hty
        cases hz : nzB E.P fl.type with
        | false => rw [hz] at h; exact h.elim
        | true =>
          rw [hz] at h
          simp only [cond_true] at h
          split at h
          · rename_i z hsub
            obtain ⟨k1, _⟩ := subD_cells u y fl.offset v z _ hc hsub
            refine fin h hz hv ?_
            simp only [RelAV]
            exact ⟨b, off + fl.offset, rfl, hb, CellsOf.mono k1 (fun _ h => h) (fun j _ => by rw [Nat.add_assoc])⟩
          · exact h.elim
      · exact h.elim
    · exact h.elim
  · exact h.elim

theorem val_sub {S : BSet} {P : Program} {t : TypeId} {u : Ty} (ht : tyB P t u = true) {us : Array Value} {off : Nat} {x : u.den} (h : CellsOf S w u x (fun j => us[off + j]?)) :
    ∃ v, (∀ w', (part t us off).run P w' = .ok v w') ∧ u.val S w x v := by
  obtain ⟨i, d, hi, hs, hd, hg⟩ := tyB_some ht
  cases hu : u.isAgg with
  | true =>
    refine ⟨.agg (us.extract off (off + u.size)), ?_, ?_⟩
    · intro w'; simp [part, run_isAgg hd, hg, hu, run_sizeOf' hi, hs]
    · have hfit : off + u.size ≤ us.size ∨ u.size = 0 := by
        rcases Nat.eq_zero_or_pos u.size with h0 | h0
        · exact .inr h0
        · obtain ⟨cv, k, _⟩ := h (u.size - 1) (by omega)
          have := (Array.getElem?_eq_some_iff.1 k).1
          exact .inl (by omega)
      refine ⟨by simp [aggB, hu], ?_, fun j hj => ?_⟩
      · simp only [Value.cells, Array.size_extract]; omega
      · obtain ⟨cv, k1, k2⟩ := h j hj
        refine ⟨cv, ?_, k2⟩
        simp only [Value.cells]
        rw [Array.getElem?_extract, if_pos (by omega)]; exact k1
  | false =>
    obtain ⟨cv, k1, k2⟩ := h 0 (by rw [leaf_size hu]; omega)
    refine ⟨cv, ?_, Ty.val_of_cell hu k2⟩
    have k1' : us[off]? = some cv := k1
    intro w'; simp [part, run_isAgg hd, hg, hu, k1']

theorem op_field {E : Env} {o : Oper} {K : St → Prop} {t : TypeId} {x : Operand} {f : Nat} (ho : o.op = .field t x f) (hR : R Γ s c E.N a w) (h : opX E o s K) : PlainOk E o s c a w K := by
  have hx := evalO_rel hR x
  unfold opX at h; rw [ho] at h; simp only at h
  split at h
  · rename_i fl hfl
    split at h
    · rename_i v hty
      cases ht : tyB E.P fl.type v with
      | false => rw [ht] at h; exact h.elim
      | true =>
        rw [ht] at h
        simp only [cond_true] at h
        split at h
        · rename_i u y e
          rw [e] at hx
          simp only [RelAV] at hx
          cases hu : u.isAgg with
          | false => rw [hu] at h; exact h.elim
          | true =>
          rw [hu] at h
          simp only [cond_true] at h
          split at h
          · rename_i z hsub
            obtain ⟨k1, _⟩ := subD_cells u y fl.offset v z _ hx.2.2 hsub
            have hag : ∃ us, a.eval x = .agg us := by
              have h1 := hx.1
              rw [hu] at h1
              generalize a.eval x = vv at h1
              cases vv <;> simp [aggB] at h1
              exact ⟨_, rfl⟩
            obtain ⟨us, hv⟩ := hag
            rw [hv] at k1
            obtain ⟨v', m1, m2⟩ := val_sub (us := us) ht k1
            obtain ⟨fs, hu, hf⟩ := fieldOf_some hfl
            refine OpOk.value hR h (fun w' _ => ?_) (by simp only [RelAV]; exact m2)
            unfold execOp; rw [ho]; simp [Instr.field, run_underlying hu, hf, hv, asAgg, m1]
          · exact h.elim
        · exact h.elim
    · exact h.elim
  · exact h.elim

/-! ### Zeros -/
theorem zeros_some : ∀ (n : Nat) (k : IntKind) (vs r : List Value), zeroOk.zeros n k vs = some r → vs = List.replicate n (.int k 0) ++ r
  | 0, k, vs, r, h => by simp only [zeroOk.zeros, Option.some.injEq] at h; simp [h]
  | n + 1, k, [], r, h => by simp [zeroOk.zeros] at h
  | n + 1, k, v :: vs, r, h => by
    cases v <;> simp only [zeroOk.zeros] at h <;> try (cases h; done)
    rename_i k' m
    cases hb : (decide (k = k') && decide (m = 0)) with
    | false => rw [hb] at h; cases h
    | true =>
      rw [hb] at h
      simp only [Bool.and_eq_true, decide_eq_true_eq] at hb
      obtain ⟨rfl, rfl⟩ := hb
      have := zeros_some n k vs r h
      rw [this]; simp [List.replicate_succ]

theorem zone {S : BSet} {t : Ty} {x : t.den} {v : Value} (hs : t.size = 1) (h : t.cell S w x 0 v) : CellsOf S w t x (fun j => [v][j]?) := by
  intro j hj
  have : j = 0 := by omega
  subst this
  exact ⟨v, rfl, h⟩

/-- A type's zeros: data that is zero. -/
theorem zeroOk_some {L : List AObj} {S : BSet} : ∀ (t : Ty) (vs r : List Value), zeroOk t vs = some r →
    ∃ p, vs = p ++ r ∧ p.length = t.size ∧ CellsOf S w t t.dflt (fun j => p[j]?) ∧ RelCh L c w (zeroCh t) (fun j => p[j]?) ∧ ((zeroCh t).map AV.size).sum = t.size
  | .pair a b, vs, r, h => by
    simp only [zeroOk] at h
    split at h
    · rename_i r1 h1
      obtain ⟨p, e1, l1, d1, c1, s1⟩ := zeroOk_some a vs r1 h1
      obtain ⟨q, e2, l2, d2, c2, s2⟩ := zeroOk_some b r1 r h
      have g1 : ∀ j, j < a.size → p[j]? = (p ++ q)[j]? := fun j hj => by rw [List.getElem?_append_left (by omega)]
      have g2 : ∀ j, q[j]? = (p ++ q)[j + a.size]? := fun j => by rw [List.getElem?_append_right (by omega)]; congr 1; omega
      refine ⟨p ++ q, by rw [e1, e2, List.append_assoc], by simp [l1, l2, Ty.size], CellsOf.pair (d1.mono (fun _ h => h) g1) (d2.mono (fun _ h => h) (fun j _ => g2 j)), ?_, by simp [zeroCh, s1, s2, Ty.size]⟩
      simp only [zeroCh]
      refine RelCh_append (RelCh_congr c1 (fun j hj => g1 j (by omega))) ?_
      rw [s1]
      exact RelCh_congr c2 (fun j _ => g2 j)
    · cases h
  | .unit, vs, r, h => by
    simp only [zeroOk, Option.some.injEq] at h
    exact ⟨[], by simp [h], rfl, fun j hj => by simp [Ty.size] at hj, by simp [zeroCh, RelCh], by simp [zeroCh, Ty.size]⟩
  | .int k, vs, r, h => by
    unfold zeroOk at h
    split at h <;> try (rename_i e; cases e; done)
    · rename_i k0 k' n r' e
      simp only [Ty.int.injEq] at e
      subst e
      cases hb : (decide (k = k') && decide (n = 0)) with
      | false => rw [hb] at h; cases h
      | true =>
        rw [hb] at h
        simp only [Bool.and_eq_true, decide_eq_true_eq] at hb
        obtain ⟨rfl, rfl⟩ := hb
        simp only [cond_true, Option.some.injEq] at h
        subst h
        exact ⟨[.int k 0], rfl, rfl, zone (t := .int k) rfl rfl, ⟨zone (t := .int k) rfl rfl, trivial⟩, rfl⟩
    · cases h
  | .bool, vs, r, h => by
    unfold zeroOk at h
    split at h <;> try (rename_i e; cases e; done)
    · simp only [Option.some.injEq] at h
      subst h
      exact ⟨[.bool false], rfl, rfl, zone (t := .bool) rfl rfl, ⟨zone (t := .bool) rfl rfl, trivial⟩, rfl⟩
    · cases h
  | .str, vs, r, h => by
    unfold zeroOk at h
    split at h <;> try (rename_i e; cases e; done)
    · rename_i s r' _
      cases hb : s.isEmpty with
      | false => rw [hb] at h; cases h
      | true =>
        rw [hb] at h
        simp only [cond_true, Option.some.injEq] at h
        subst h
        have : s = ByteArray.empty := by
          cases s with
          | mk d => simp [ByteArray.isEmpty, ByteArray.size] at hb; cases d; simp_all [ByteArray.empty, ByteArray.emptyWithCapacity]; rfl
        subst this
        exact ⟨[.string ByteArray.empty], rfl, rfl, zone (t := .str) rfl rfl, ⟨zone (t := .str) rfl rfl, trivial⟩, rfl⟩
    · cases h
  | .arr n k, vs, r, h => by
    unfold zeroOk at h
    have hz := zeros_some n k vs r h
    have hc : ∀ S, CellsOf S w (.arr n k) (Ty.dflt (.arr n k)) (fun j => (List.replicate n (Value.int k 0))[j]?) := fun S j hj => by
      simp only [Ty.size] at hj
      refine ⟨.int k 0, by simp [hj], ?_⟩
      simp [Ty.cell, Ty.dflt, List.getD, hj]
    exact ⟨List.replicate n (.int k 0), hz, by simp [Ty.size], hc S, ⟨hc c.S, trivial⟩, by simp [zeroCh, AV.size, Ty.size]⟩
  | .slice e, vs, r, h => by
    unfold zeroOk at h
    split at h <;> try (rename_i e; cases e; done)
    · simp only [Option.some.injEq] at h
      subst h
      refine ⟨[.slice none 0 0], rfl, rfl, zone (t := .slice e) rfl ⟨none, 0, rfl, Nat.le_refl _, fun _ => rfl, fun hne => absurd rfl hne⟩, ?_, rfl⟩
      exact (RelCh_cons (by intro _ _ e; cases e)).2 ⟨⟨_, rfl, by simp only [RelAV]⟩, trivial⟩
    · cases h
  | .ref t, vs, r, h => by
    unfold zeroOk at h
    split at h <;> try (rename_i e; cases e; done)
    · simp only [Option.some.injEq] at h
      subst h
      refine ⟨[.pointer none], rfl, rfl, zone (t := .ref t) rfl rfl, ?_, rfl⟩
      exact (RelCh_cons (by intro _ _ e; cases e)).2 ⟨⟨_, rfl, by simp only [RelAV]⟩, trivial⟩
    · cases h
theorem zeroB_some {P : Program} {t : TypeId} {u : Ty} (h : zeroB P t u = true) : ∃ i z, P.info? t = some i ∧ i.zero = some z ∧ zeroOk u z.cells.toList = some [] := by
  unfold zeroB at h
  split at h
  · rename_i i hi
    split at h
    · rename_i z hz
      split at h
      · rename_i hk; exact ⟨i, z, hi, hz, hk⟩
      · cases h
    · cases h
  · cases h
end

end Go.Proofs.Ytodjomdnlcledaa.X
