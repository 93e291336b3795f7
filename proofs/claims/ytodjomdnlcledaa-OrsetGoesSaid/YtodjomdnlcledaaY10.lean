/- Operations: elements, cuts, lengths, calls. -/
import Derived.Test.YtodjomdnlcledaaY9
namespace Go.Proofs.Ytodjomdnlcledaa.X
open Go Go.RowKit
set_option linter.unusedSimpArgs false
set_option linter.unusedVariables false

section
variable {Γ : Base} {s : St} {c : Ctx} {N : Nat} {a : Act} {w : World}

theorem elemOfSlice_some {P : Program} {t T : TypeId} (h : elemOfSlice P t = some T) : P.underlying t = some (.slice T) := by
  unfold elemOfSlice at h
  split at h
  · rename_i e hu; cases h; exact hu
  · cases h

theorem op_indexAddr {E : Env} {o : Oper} {K : St → Prop} {t : TypeId} {x y : Operand} (ho : o.op = .indexAddr t x y) (hR : R Γ s c E.N a w) (h : opX E o s K) : PlainOk E o s c a w K := by
  have hx := evalO_rel hR x
  have hy := evalO_rel hR y
  unfold opX at h; rw [ho] at h; simp only at h
  have fin : ∀ {av : AV} {v : Value}, putX E o.dst K av s → (∀ w, (Instr.indexAt t (a.eval x) (a.eval y)).run E.P w = .ok v w) → RelAV s.L c w av v → PlainOk E o s c a w K := by
    intro av v hK hr hv
    refine OpOk.value hR hK (fun w' _ => ?_) hv
    unfold execOp; rw [ho]; simp [hr]
  unfold indexX at h
  split at h
  · rename_i ki i ei
    rw [ei] at hy
    simp only [RelAV] at hy
    have hyv := val_int hy
    split at h
    · rename_i T hT
      have hu := elemOfSlice_some hT
      split at h
      · rename_i e xs ex
        rw [ex] at hx
        simp only [RelAV] at hx
        cases hb : szB E.P T e.size with
        | false => rw [hb] at h; exact h.elim
        | true =>
          rw [hb] at h
          simp only [cond_true] at h
          obtain ⟨⟨h0, hn⟩, h⟩ := h
          obtain ⟨inf, hi, hs⟩ := szB_some hb
          obtain ⟨p, cap, hv, _, _, hc⟩ := Ty.val_one (t := .slice e) rfl hx
          have hlt : i.toNat < xs.length := by have : (i : Int) < (xs.length : Int) := hn; omega
          obtain ⟨b, o', rfl, hb', hc⟩ := hc (by intro e; rw [e] at hlt; simp at hlt)
          have hget : xs[i.toNat]? = some (rd xs i) := by simp [rd, List.getD, hlt]
          refine fin h (v := .pointer (some ⟨b, o' + i.toNat * e.size, none⟩)) ?_ ?_
          · intro w; rw [hv, hyv]
            have hn' : i < (xs.length : Int) := hn
            simp [Instr.indexAt, asIntOf, run_underlying hu, h0, hn', run_sizeOf' hi, hs, Addr.add_mid]
          · simp only [RelAV]
            refine ⟨b, _, rfl, hb', fun j hj => ?_⟩
            obtain ⟨cv, k1, k2⟩ := hc i.toNat _ hget j hj
            exact ⟨cv, by rw [Nat.add_assoc]; exact k1, k2⟩
      · rename_i id ver e ex
        rw [ex] at hx
        cases hb : szB E.P T e.size with
        | false => rw [hb] at h; exact h.elim
        | true =>
          rw [hb] at h
          simp only [cond_true] at h
          obtain ⟨inf, hi, hs⟩ := szB_some hb
          split at h
          · rename_i xs hrow
            obtain ⟨⟨h0, hn⟩, h⟩ := h
            obtain ⟨T', hL⟩ := rowData_some hrow
            simp only [RelAV, RowAt, hL] at hx
            have hv := hx.2 trivial
            have hr : RowRel c w (c.m id) T' e xs := hR.rw_.objs id _ hL
            have hlt : i.toNat < xs.length := by have : (i : Int) < (xs.length : Int) := hn; omega
            rcases hr with ⟨h1, h2⟩ | ⟨b, cap, cells, h1, h2, h3, h4, h5, h6⟩
            · rw [h2] at hlt; simp at hlt
            · refine fin h (v := .pointer (some ⟨b, i.toNat * e.size, none⟩)) ?_ ?_
              · intro w; rw [hv, h1, hyv]
                have hn' : i < (xs.length : Int) := hn
                simp [Instr.indexAt, asIntOf, run_underlying hu, h0, hn', run_sizeOf' hi, hs, Addr.add_mid]
              · simp only [RelAV, RowAt, hL]
                exact ⟨Nat.le_refl _, fun _ => ⟨b, _, cap, h1, h0, hn, rfl⟩⟩
          · exact h.elim
      · rename_i id ver e lo hi ex
        obtain ⟨z, hz⟩ : ∃ z : Int, z = i := ⟨i, rfl⟩
        subst hz
        rw [ex] at hx
        cases hb : szB E.P T e.size with
        | false => rw [hb] at h; exact h.elim
        | true =>
          rw [hb] at h
          simp only [cond_true] at h
          obtain ⟨inf, hinf, hs⟩ := szB_some hb
          split at h
          · rename_i xs hrow
            obtain ⟨⟨h0, hn⟩, h⟩ := h
            obtain ⟨T', hL⟩ := rowData_some hrow
            simp only [RelAV, RowAt, hL] at hx
            obtain ⟨g0, g1, hv⟩ := hx.2 trivial
            have h0' : (0 : Int) ≤ z := h0
            have hn' : z < hi - lo := hn
            rcases hv with ⟨_, rfl, _⟩ | ⟨b, n, cap, p, q1, q2, q2', q3, q4⟩
            · omega
            · have hp := q4 (by omega)
              subst hp
              refine fin h (v := .pointer (some ⟨b, (lo + z).toNat * e.size, none⟩)) ?_ ?_
              · intro w; rw [q3, hyv]
                have hn2 : z < ((hi.toNat - lo.toNat : Nat) : Int) := by omega
                have e1 : (lo + z).toNat = lo.toNat + z.toNat := by omega
                simp [Instr.indexAt, asIntOf, run_underlying hu, h0', hn2, run_sizeOf' hinf, hs, Addr.add_mid, e1, Nat.add_mul]
              · simp only [RelAV, RowAt, hL]
                refine ⟨Nat.le_refl _, fun _ => ⟨b, n, cap, q1, ?_, ?_, rfl⟩⟩
                · show (0 : Int) ≤ lo + z; omega
                · show lo + z < (n : Int); omega
          · exact h.elim
      · exact h.elim
    · split at h
      · rename_i n T hT
        have hu : E.P.underlying t = some (.array n T) := by
          unfold indexX.P_arr at hT
          split at hT
          · rename_i n' T' hu; cases hT; exact hu
          · cases hT
        cases hb : (szB E.P T 1 && Nat.blt 1 n) with
        | false => rw [hb] at h; exact h.elim
        | true =>
          rw [hb] at h
          simp only [Bool.and_eq_true] at hb
          simp only [cond_true] at h
          obtain ⟨inf, hi, hs⟩ := szB_some hb.1
          have hn1 : 1 < n := by simpa [Nat.blt_eq] using hb.2
          have hrun : ∀ {w : World} {b o' : Nat}, 0 ≤ i → i < (n : Int) → (Instr.indexAt t (.pointer (some ⟨b, o', none⟩)) (.int ki i)).run E.P w = .ok (.pointer (some ⟨b, o' + i.toNat, none⟩)) w := by
            intro w b o' h0 hn
            simp [Instr.indexAt, asIntOf, run_underlying hu, h0, hn, run_sizeOf' hi, hs, Addr.add_mid, Instr.sureAddr]
          split at h
          · rename_i id off ex
            rw [ex] at hx
            simp only [RelAV] at hx
            obtain ⟨hca, b, hm, hv⟩ := hx
            split at h
            · rename_i cs hL
              split at h
              · rename_i p n' k l q hmid
                cases hnn : Nat.beq n n' with
                | false => rw [hnn] at h; exact h.elim
                | true =>
                  rw [hnn] at h
                  simp only [cond_true] at h
                  obtain ⟨⟨h0, hn⟩, h⟩ := h
                  refine fin h (v := .pointer (some ⟨b, off + i.toNat, none⟩)) (by intro w; rw [hv, hyv]; exact hrun h0 hn) ?_
                  simp only [RelAV]
                  exact ⟨hca, h0, hn, b, hm, rfl⟩
              · exact h.elim
            · exact h.elim
          · rename_i n' k l ex
            rw [ex] at hx
            simp only [RelAV] at hx
            obtain ⟨b, o', hv, hb', hc⟩ := hx
            cases hnn : Nat.beq n n' with
            | false => rw [hnn] at h; exact h.elim
            | true =>
              rw [hnn] at h
              have := Nat.eq_of_beq_eq_true hnn
              subst this
              simp only [cond_true] at h
              obtain ⟨⟨h0, hn⟩, h⟩ := h
              refine fin h (v := .pointer (some ⟨b, o' + i.toNat, none⟩)) (by intro w; rw [hv, hyv]; exact hrun h0 hn) ?_
              simp only [RelAV]
              refine ⟨b, _, rfl, hb', fun j hj => ?_⟩
              simp only [Ty.size] at hj
              have : j = 0 := by omega
              subst this
              obtain ⟨cv, k1, k2⟩ := hc i.toNat (by simp only [Ty.size]; have : (i : Int) < (n : Int) := hn; omega)
              exact ⟨cv, k1, k2⟩
          · exact h.elim
      · exact h.elim
  · exact h.elim

theorem op_index {E : Env} {o : Oper} {K : St → Prop} {t : TypeId} {x y : Operand} (ho : o.op = .index t x y) (hR : R Γ s c E.N a w) (h : opX E o s K) : PlainOk E o s c a w K := by
  have hx := evalO_rel hR x
  have hy := evalO_rel hR y
  unfold opX at h; rw [ho] at h; simp only at h
  split at h
  · rename_i n T n' k l k2 i hu ex ey
    rw [ex] at hx; rw [ey] at hy
    simp only [RelAV] at hx hy
    have hyv := val_int hy
    cases hb : (Nat.beq n n' && oneB E.P T) with
    | false => rw [hb] at h; exact h.elim
    | true =>
      rw [hb] at h
      simp only [Bool.and_eq_true] at hb
      have := Nat.eq_of_beq_eq_true hb.1
      subst this
      simp only [cond_true] at h
      obtain ⟨⟨h0, hn⟩, h⟩ := h
      obtain ⟨inf, d, hi, hs, hd, hg⟩ := oneB_some hb.2
      obtain ⟨h1, h2, h3⟩ := hx
      have hag : ∃ us, a.eval x = .agg us := by
        generalize a.eval x = vv at h1
        cases vv <;> simp [aggB, Ty.isAgg] at h1
        exact ⟨_, rfl⟩
      obtain ⟨us, hv⟩ := hag
      rw [hv] at h3
      obtain ⟨cv, k1, k2⟩ := h3 i.toNat (by simp only [Ty.size]; have : (i : Int) < (n : Int) := hn; omega)
      simp only [Ty.cell] at k2
      subst k2
      refine OpOk.value hR h (fun w' _ => ?_) (rel_int _ _)
      unfold execOp; rw [ho]
      have hn' : i < (n : Int) := hn
      have k1' : us[i.toNat]? = some (.int k (List.getD l i.toNat 0)) := k1
      simp [Instr.index, asIntOf, hv, hyv, run_underlying hu, h0, hn', run_sizeOf' hi, hs, part, run_isAgg hd, hg, k1']
  · exact h.elim

theorem op_makeSlice {E : Env} {o : Oper} {K : St → Prop} {t : TypeId} {x y : Operand} (ho : o.op = .makeSlice t x y) (hR : R Γ s c E.N a w) (h : opX E o s K) : OpOk E Γ o s c a w K := by
  have hx := evalO_rel hR x
  have hy := evalO_rel hR y
  unfold opX at h; rw [ho] at h; simp only at h
  split at h
  · rename_i T e k1 n0 k2 m0 hsl ex ey
    obtain ⟨n, hq⟩ : ∃ n : Int, n = n0 := ⟨n0, rfl⟩
    subst hq
    obtain ⟨m, hq⟩ : ∃ m : Int, m = m0 := ⟨m0, rfl⟩
    subst hq
    rw [ex] at hx; rw [ey] at hy
    simp only [RelAV] at hx hy
    have hxv := val_int hx
    have hyv := val_int hy
    cases hb : (bytesB E.P T && zeroB E.P T e) with
    | false => rw [hb] at h; exact h.elim
    | true =>
      rw [hb] at h
      simp only [Bool.and_eq_true] at hb
      simp only [cond_true] at h
      obtain ⟨⟨h0, hnm, hm⟩, h⟩ := h
      obtain ⟨hu, ⟨i, hi, hs⟩, hpos⟩ := sliceDOf_some hsl
      obtain ⟨i', hi', hby⟩ := bytesB_some hb.1
      have : i' = i := by rw [hi] at hi'; simpa using hi'.symm
      subst this
      obtain ⟨i2, z, hi2, hz, hzo⟩ := zeroB_some hb.2
      have : i2 = i' := by rw [hi] at hi2; simpa using hi2.symm
      subst this
      obtain ⟨p, e1, l1, d1, _⟩ := zeroOk_some (L := s.L) (c := c) (w := w) (S := c.S) e _ _ hzo
      rw [List.append_nil] at e1
      have hzs : z.cells.size = e.size := by rw [← l1, ← e1, Array.length_toList]
      have h0' : (0 : Int) ≤ n := h0
      have hnm' : (n : Int) ≤ m := hnm
      have hm' : (m : Int) ≤ 2147483648 := hm
      have hbytes : (i2.bytes : Int) * m ≤ 281474976710656 := by
        have h1 : (i2.bytes : Int) * m ≤ 65536 * m := Int.mul_le_mul_of_nonneg_right (by omega) (by omega)
        omega
      have hrun := run_make (P := E.P) w t T i2 z hu hi hz k1 k2 n m h0' hnm' hbytes (by omega)
      have hh : ∀ b, b < w.heap.size → (w.alloc (.cells (madeCells z.cells (Int.toNat m * i2.size)) T)).heap[b]? = w.heap[b]? := fun b hb => heap_alloc_old w _ b hb
      obtain ⟨m1, m2⟩ := hR.rw_.add (o' := .row 0 T e (List.replicate (Int.toNat n) e.dflt)) (v' := .slice (some ⟨w.heap.size, 0, none⟩) (Int.toNat n) (Int.toNat m)) (w' := w.alloc (.cells (madeCells z.cells (Int.toNat m * i2.size)) T)) ⟨rfl, rfl, rfl, by simp⟩ hh
        (fun b hb => by
          obtain ⟨n', cap', e3⟩ := hb
          simp only [Value.slice.injEq, Option.some.injEq, Addr.mk.injEq] at e3
          simp; omega)
        (fun hst => .inr ⟨w.heap.size, Int.toNat m, _, by simp, by unfold maxLen; omega, by simp; omega, heap_alloc_new w _, by rw [size_madeCells, hs], fun r x hx j hj => by
          have hr : r < Int.toNat n := by have := (List.getElem?_eq_some_iff.1 hx).1; simpa using this
          have hxd : x = e.dflt := by simp [hr] at hx; exact hx.symm
          subst hxd
          obtain ⟨cv, q1, q2⟩ := d1 j hj
          refine ⟨cv, ?_, Ty.cell_mono (S := c.S) (fun _ h => h) (fun b hb => hst.heap b hb) e _ j cv q2⟩
          have hlt : r * e.size + j < Int.toNat m * i2.size := by
            rw [hs]
            have := Nat.mul_le_mul_right e.size (show r + 1 ≤ Int.toNat m by omega)
            rw [Nat.succ_mul] at this; omega
          have hmod : (r * e.size + j) % z.cells.size = j := by rw [hzs, Nat.mul_comm, Nat.mul_add_mod]; exact Nat.mod_eq_of_lt hj
          have hzj : z.cells[j]? = some cv := by rw [← Array.getElem?_toList, e1]; exact q1
          have hzl : j < z.cells.size := by rw [hzs]; exact hj
          simp only [madeCells, Array.getElem?_map, Array.getElem?_range, hlt, if_true, Option.map_some, hmod]
          rw [getElem!_pos z.cells j hzl, ← hzj, Array.getElem?_eq_getElem hzl]⟩)
      refine OpOk.step hR h (Adv.add m2 hR.rw_ hh) rfl m1 ?_ ?_ (fun _ => hh) (v := .slice (some ⟨w.heap.size, 0, none⟩) (Int.toNat n) (Int.toNat m))
      · unfold execOp; rw [ho]; simp only [hxv, hyv, Sem.run_bind, hrun, Result.andThen_ok]; rfl
      · simp only [RelAV, RowAt, St.addL]
        simp [Ctx.set]
  · exact h.elim
end

end Go.Proofs.Ytodjomdnlcledaa.X
