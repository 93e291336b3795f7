/- Operations: structs put together, new variables, addresses of elements. -/
import Derived.Test.YtodjomdnlcledaaY7
namespace Go.Proofs.Ytodjomdnlcledaa.X
open Go Go.RowKit
set_option linter.unusedSimpArgs false
set_option linter.unusedVariables false

section
variable {Γ : Base} {s : St} {c : Ctx} {N : Nat} {a : Act} {w : World}

theorem foldl_set : ∀ (vs : List Value) (k off : Nat) (cs : Array Value), off + k + vs.length ≤ cs.size →
    ((vs.zipIdx k).foldl (fun cs (p : Value × Nat) => cs.setIfInBounds (off + p.2) p.1) cs).toList = cs.toList.take (off + k) ++ vs ++ cs.toList.drop (off + k + vs.length)
  | [], k, off, cs, h => by simp
  | v :: vs, k, off, cs, h => by
    simp only [List.zipIdx_cons, List.foldl_cons]
    simp only [List.length_cons] at h
    rw [foldl_set vs (k + 1) off _ (by simp; omega)]
    apply List.ext_getElem?
    intro j
    have hl : cs.toList.length = cs.size := Array.length_toList
    by_cases h1 : j < off + k
    · simp only [List.append_assoc]
      rw [List.getElem?_append_left (by simp; omega), List.getElem?_append_left (by simp; omega), List.getElem?_take_of_lt (by omega), List.getElem?_take_of_lt h1]
      simp [List.getElem?_set_ne (show off + k ≠ j by omega)]
    · by_cases h2 : j = off + k
      · subst h2
        simp only [List.append_assoc]
        rw [List.getElem?_append_left (by simp; omega), List.getElem?_take_of_lt (by omega), List.getElem?_append_right (by simp; omega)]
        have : off + k - (List.take (off + k) cs.toList).length = 0 := by simp; omega
        rw [this]
        simp only [Array.getElem?_toList, List.cons_append, List.getElem?_cons_zero]
        rw [Array.getElem?_setIfInBounds_self_of_lt (by omega)]
      · by_cases h3 : j < off + k + 1 + vs.length
        · rw [List.getElem?_append_left (by simp; omega), List.getElem?_append_right (by simp; omega), List.getElem?_append_left (by simp; omega), List.getElem?_append_right (by simp; omega)]
          have e1 : j - (List.take (off + (k + 1)) (cs.setIfInBounds (off + k) v).toList).length = j - (off + k + 1) := by simp; omega
          have e2 : j - (List.take (off + k) cs.toList).length = j - (off + k + 1) + 1 := by simp; omega
          rw [e1, e2, List.getElem?_cons_succ]
        · rw [List.getElem?_append_right (by simp; omega), List.getElem?_append_right (by simp; omega), List.getElem?_drop, List.getElem?_drop]
          have e1 : off + (k + 1) + vs.length + (j - (List.take (off + (k + 1)) (cs.setIfInBounds (off + k) v).toList ++ vs).length) = j := by simp; omega
          have e2 : off + k + (v :: vs).length + (j - (List.take (off + k) cs.toList ++ v :: vs).length) = j := by simp; omega
          rw [e1, e2]
          simp only [Array.getElem?_toList]
          rw [Array.getElem?_setIfInBounds_ne (by omega)]

theorem fill_step {place : Nat → Option (Nat × Nat)} {cells : Array Value} {i : Nat} {v : Value} {rest : List (Nat × Value)} {off n : Nat} (hp : place i = some (off, n)) (hn : v.cells.size = n) (hfit : off + n ≤ cells.size) :
    Instr.fill place cells ((i, v) :: rest) = Instr.fill place (cells.toList.take off ++ v.cells.toList ++ cells.toList.drop (off + v.cells.toList.length)).toArray rest := by
  have e : (v.cells.zipIdx.foldl (fun cs (p : Value × Nat) => cs.setIfInBounds (off + p.2) p.1) cells) = (cells.toList.take off ++ v.cells.toList ++ cells.toList.drop (off + v.cells.toList.length)).toArray := by
    rw [← Array.foldl_toList, Array.toList_zipIdx]
    have := foldl_set v.cells.toList 0 off cells (by rw [Array.length_toList]; omega)
    apply Array.ext'
    rw [this]; simp
  simp only [Instr.fill, hp]
  rw [if_neg (by simp; omega)]
  exact congrArg (fun c => Instr.fill place c rest) e

theorem partsX_rel (hR : R Γ s c N a w) (ps : List (Nat × Operand)) : ∀ p ∈ ps, RelAV s.L c w (evalO s p.2) (a.eval p.2) := fun p _ => evalO_rel hR p.2

theorem buildGo_some (hw : RW Γ s.L c w) {pl : List (Nat × Nat)} {place : Nat → Option (Nat × Nat)} (hpl : ∀ i, place i = pl[i]?) : ∀ (ps : List (Nat × AV)) (vs : List (Nat × Value)) (cs out : List AV) (cells : Array Value),
    All2 (fun (p : Nat × AV) (q : Nat × Value) => p.1 = q.1 ∧ RelAV s.L c w p.2 q.2) ps vs → RelCh s.L c w cs (fun j => cells[j]?) → cells.size = (cs.map AV.size).sum → buildGo s.L pl ps cs = some out →
    ∃ cells', Instr.fill place cells vs = some cells' ∧ RelCh s.L c w out (fun j => cells'[j]?) ∧ cells'.size = cells.size ∧ (out.map AV.size).sum = (cs.map AV.size).sum
  | [], [], cs, out, cells, _, hc, hs, h => by
    simp only [buildGo, Option.some.injEq] at h
    subst h
    exact ⟨cells, rfl, hc, rfl, rfl⟩
  | [], _ :: _, _, _, _, h, _, _, _ => h.elim
  | _ :: _, [], _, _, _, h, _, _, _ => h.elim
  | (i, av) :: ps, (i', v) :: vs, cs, out, cells, hall, hc, hs, h => by
    obtain ⟨⟨e, hrel⟩, hrest⟩ := hall
    simp only at e hrel
    subst e
    simp only [buildGo] at h
    split at h
    · rename_i off n hp
      cases hb : (Nat.beq (av.parts.map AV.size).sum n && av.parts.all (oneAV s.L)) with
      | false => rw [hb] at h; cases h
      | true =>
        rw [hb] at h
        simp only [Bool.and_eq_true] at hb
        have hn := Nat.eq_of_beq_eq_true hb.1
        simp only [cond_true] at h
        have key : av ≠ .junk → (∀ l, av ≠ .tup l) → (match midCh cs off n with | some (p, _, q) => buildGo s.L pl ps (p ++ (av.parts ++ q)) | none => none) = some out →
            ∃ cells', Instr.fill place cells ((i, v) :: vs) = some cells' ∧ RelCh s.L c w out (fun j => cells'[j]?) ∧ cells'.size = cells.size ∧ (out.map AV.size).sum = (cs.map AV.size).sum := by
          intro hj ht h
          split at h
          · rename_i p m q hmid
            obtain ⟨h1, h2, h3⟩ := midCh_some hmid
            obtain ⟨k1, k2⟩ := parts_rel hw hrel hb.2 hj ht
            rw [h1] at hc hs
            obtain ⟨c1, c2⟩ := RelCh_split hc
            obtain ⟨c3, c4⟩ := RelCh_split c2
            have hvl : v.cells.toList.length = n := by rw [Array.length_toList, k1, hn]
            have hsum : cells.toList.length = off + (n + (q.map AV.size).sum) := by
              have e : cells.toList.length = cells.size := Array.length_toList
              rw [e, hs]; simp [h2, h3]
            have hfit : off + n ≤ cells.size := by rw [← Array.length_toList, hsum]; omega
            rw [fill_step (by rw [hpl, hp]) (by rw [k1, hn]) hfit]
            obtain ⟨cells', f1, f2, f3, f4⟩ := buildGo_some hw hpl ps vs (p ++ (av.parts ++ q)) out _ hrest
              (RelCh_append (RelCh_congr c1 fun j hj => by rw [newCells_lo cells.toList v.cells.toList off j (by omega) (by omega)]; simp)
                (RelCh_append (RelCh_congr k2 fun j hj => by rw [h2, Nat.add_comm j, newCells_mid _ _ _ _ (by omega) (by rw [hvl, ← hn]; exact hj)]; simp)
                  (RelCh_congr c4 fun j hj => by
                    rw [h2, h3, hn, newCells_hi cells.toList v.cells.toList off _ (by omega) (by omega)]
                    simp only [Array.getElem?_toList])))
              (by rw [newCells_size _ _ _ (by omega), hsum]; simp [h2, hn]) h
            refine ⟨cells', f1, f2, ?_, ?_⟩
            · rw [f3, newCells_size _ _ _ (by omega), Array.length_toList]
            · rw [f4, h1]; simp [h3, hn]
          · cases h
        split at h
        · cases h
        · cases h
        · rename_i hj ht
          exact key (fun e => hj e) (fun l e => ht l e) h
    · cases h

theorem op_build {E : Env} {o : Oper} {K : St → Prop} {t : TypeId} {ps : Array (Nat × Operand)} (ho : o.op = .build t ps) (hR : R Γ s c E.N a w) (h : opX E o s K) : OpOk E Γ o s c a w K := by
  refine PlainOk.ok ?_ hR
  unfold opX at h; rw [ho] at h; simp only at h
  unfold buildX at h
  split at h
  · rename_i u hu
    cases hb : (tyB E.P t u && zeroB E.P t u && u.isAgg) with
    | false => rw [hb] at h; exact h.elim
    | true =>
      rw [hb] at h
      simp only [Bool.and_eq_true] at hb
      simp only [cond_true] at h
      split at h
      · rename_i pl hpl
        split at h
        · rename_i cs hcs
          obtain ⟨i, d, hi, hs, hd, hg⟩ := tyB_some hb.1.1
          obtain ⟨i', z, hi', hz, hzo⟩ := zeroB_some hb.1.2
          have : i' = i := by rw [hi] at hi'; simpa using hi'.symm
          subst this
          obtain ⟨p, e1, l1, d1, c1, s1⟩ := zeroOk_some (L := s.L) (c := c) (w := w) (S := c.S) u _ _ hzo
          rw [List.append_nil] at e1
          have hzc : RelCh s.L c w (zeroCh u) (fun j => z.cells[j]?) := RelCh_congr c1 fun j _ => by rw [← e1]; simp
          have hzs : z.cells.size = ((zeroCh u).map AV.size).sum := by rw [s1, ← l1, ← e1, Array.length_toList]
          have hall : ∀ l : List (Nat × Operand), All2 (fun (p : Nat × AV) (q : Nat × Value) => p.1 = q.1 ∧ RelAV s.L c w p.2 q.2) (l.map fun p => (p.1, evalO s p.2)) (l.map fun p => (p.1, a.eval p.2)) := by
            intro l
            induction l with
            | nil => trivial
            | cons p l ih => exact ⟨⟨rfl, evalO_rel hR p.2⟩, ih⟩
          have hbuilt : ∃ cells', E.P.built t (ps.map fun (i, x) => (i, a.eval x)).toList = some cells' ∧ RelCh s.L c w cs (fun j => cells'[j]?) ∧ cells'.size = z.cells.size ∧ (cs.map AV.size).sum = ((zeroCh u).map AV.size).sum := by
            unfold placesX at hpl
            rw [hd] at hpl
            have hps : (ps.map fun (i, x) => (i, a.eval x)).toList = ps.toList.map fun p => (p.1, a.eval p.2) := by simp
            cases d <;> simp only at hpl <;> try (cases hpl; done)
            case struct fs =>
              obtain ⟨cells', f1, f2, f3, f4⟩ := buildGo_some hR.rw_ (pl := pl) (place := fun i => pl.toArray[i]?) (fun i => by simp) _ _ _ _ _ (hall ps.toList) hzc hzs hcs
              refine ⟨cells', ?_, f2, f3, f4⟩
              unfold Program.built
              simp only [hi, hd, hz, hpl]
              rw [hps]; exact f1
          obtain ⟨cells', f1, f2, f3, f4⟩ := hbuilt
          refine OpOk.value hR h (v := .agg cells') (fun w' _ => ?_) (gather_agg hR.rw_ hb.2 (by rw [f4, s1]) (by rw [f3, hzs, s1]) f2)
          unfold execOp; rw [ho]
          have := run_build (P := E.P) w' t _ cells' f1
          simp only [Sem.run_bind, this, Result.andThen_ok]; rfl
        · exact h.elim
      · exact h.elim
  · exact h.elim

theorem op_alloc {E : Env} {o : Oper} {K : St → Prop} {T : TypeId} (ho : o.op = .alloc T) (hR : R Γ s c E.N a w) (h : opX E o s K) : OpOk E Γ o s c a w K := by
  unfold opX at h; rw [ho] at h; simp only at h
  have key : ∀ {i : TypeInfo} {z : Value} {cs : List AV}, E.P.info? T = some i → i.zero = some z → RelCh s.L c w cs (fun j => z.cells[j]?) → z.cells.size = (cs.map AV.size).sum →
      putX E o.dst K (.ptr s.L.length 0) (s.addL (.cells cs)) → OpOk E Γ o s c a w K := by
    intro i z cs hi hz hc hs h
    have hr : (execOp a.eval o).run E.P w = .ok (.value (.pointer (some ⟨w.heap.size, 0, none⟩))) (w.alloc (.cells z.cells T)) := by
      unfold execOp; rw [ho]; simp [Instr.alloc, zeroValue, typeInfo, hi, hz, newVar, newRow]
    have hh : ∀ b, b < w.heap.size → (w.alloc (.cells z.cells T)).heap[b]? = w.heap[b]? := fun b hb => heap_alloc_old w _ b hb
    obtain ⟨m1, m2⟩ := hR.rw_.add (o' := .cells cs) (v' := .pointer (some ⟨w.heap.size, 0, none⟩)) (w' := w.alloc (.cells z.cells T)) ⟨rfl, rfl, rfl, by simp⟩ hh
      (fun b hb => by simp only [Owns, Value.pointer.injEq, Option.some.injEq, Addr.mk.injEq] at hb; simp; omega)
      (fun hst => ⟨w.heap.size, T, z.cells, rfl, heap_alloc_new w _, hs, RelCh_step hst _ _ hc⟩)
    refine OpOk.step hR h (Adv.add m2 hR.rw_ hh) rfl m1 hr ?_ (fun _ => hh)
    simp only [RelAV, CellsAt, St.addL]
    simp [Ctx.set]
  split at h
  · rename_i u hu
    cases hb : (tyB E.P T u && zeroB E.P T u) with
    | false => rw [hb] at h; exact h.elim
    | true =>
      rw [hb] at h
      simp only [Bool.and_eq_true] at hb
      obtain ⟨i, z, hi, hz, hzo⟩ := zeroB_some hb.2
      obtain ⟨p, e1, l1, d1, c1, s1⟩ := zeroOk_some (L := s.L) (c := c) (w := w) (S := c.S) u _ _ hzo
      rw [List.append_nil] at e1
      exact key hi hz (RelCh_congr c1 fun j _ => by rw [← e1]; simp) (by rw [s1, ← l1, ← e1, Array.length_toList]) h
  · split at h
    · rename_i i hi
      split at h
      · rename_i z hz
        cases hb : (Nat.beq z.cells.size 1 && z.oneCell') with
        | false => rw [hb] at h; exact h.elim
        | true =>
          rw [hb] at h
          simp only [Bool.and_eq_true] at hb
          have hc : z.cells = #[z] := by
            have := hb.2
            cases z <;> first | rfl | cases this
          exact key hi hz ((RelCh_cons (by intro _ _ e; cases e)).2 ⟨⟨z, by rw [hc]; rfl, by simp only [RelAV]⟩, (by simp only [RelCh] : RelCh s.L c w [] _)⟩) (by rw [hc]; rfl) h
      · exact h.elim
    · exact h.elim
end

end Go.Proofs.Ytodjomdnlcledaa.X
