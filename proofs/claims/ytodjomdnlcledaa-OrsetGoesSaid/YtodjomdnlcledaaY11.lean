/- Operations: literals of slices, lengths, cuts, calls; all of them. -/
import Derived.Test.YtodjomdnlcledaaM1
namespace Go.Proofs.Ytodjomdnlcledaa.X
open Go Go.RowKit
set_option linter.unusedSimpArgs false
set_option linter.unusedVariables false

section
variable {Γ : Base} {s : St} {c : Ctx} {N : Nat} {a : Act} {w : World}

theorem RelAVs_get {L : List AObj} : ∀ {as : List AV} {vs : List Value}, RelAVs L c w as vs → as.length = vs.length
  | [], vs, h => by simp only [RelAVs] at h; subst h; rfl
  | a :: as, vs, h => by
    simp only [RelAVs] at h
    obtain ⟨u, us, rfl, _, h2⟩ := h
    simp [RelAVs_get h2]

/-- The elements that a literal lays: each in its place. -/
theorem elemsX_ok {e : Ty} {P : Program} : ∀ (ps : List (Nat × AV)) (vs : List (Nat × Value)) (xs : List e.den) (s s' : St) (c : Ctx) (out : List e.den) (cells : Array Value), RW Γ s.L c w →
    All2 (fun (p : Nat × AV) (q : Nat × Value) => p.1 = q.1 ∧ RelAV s.L c w p.2 q.2) ps vs → RowsOf c.S w e xs (fun j => cells[j]?) → cells.size = xs.length * e.size → elemsX e ps xs s = some (out, s') →
    ∃ c' cells', RW Γ s'.L c' w ∧ Adv s c w s' c' w ∧ s'.sl = s.sl ∧ Instr.fill (fun i => some (i * e.size, e.size)) cells vs = some cells' ∧ RowsOf c'.S w e out (fun j => cells'[j]?) ∧ cells'.size = out.length * e.size ∧ out.length = xs.length
  | [], [], xs, s, s', c, out, cells, hw, _, hr, hs, h => by
    simp only [elemsX, Option.some.injEq, Prod.mk.injEq] at h
    obtain ⟨rfl, rfl⟩ := h
    exact ⟨c, cells, hw, Adv.refl s c w, rfl, rfl, hr, hs, rfl⟩
  | [], _ :: _, _, _, _, _, _, _, _, h, _, _, _ => h.elim
  | _ :: _, [], _, _, _, _, _, _, _, h, _, _, _ => h.elim
  | (i, av) :: ps, (i', v) :: vs, xs, s, s', c, out, cells, hw, hall, hr, hs, h => by
    obtain ⟨⟨e1, hrel⟩, hrest⟩ := hall
    simp only at e1 hrel
    subst e1
    simp only [elemsX] at h
    split at h
    · rename_i x s1 ht
      obtain ⟨c1, k1, k2, k3, k4⟩ := takeD_ok (P := P) hw hrel ht
      cases hb : Nat.blt i xs.length with
      | false => rw [hb] at h; cases h
      | true =>
        rw [hb] at h
        simp only [cond_true] at h
        have hi : i < xs.length := by simpa [Nat.blt_eq] using hb
        have hroom : i * e.size + e.size ≤ cells.size := by
          rw [hs, ← Nat.succ_mul]; exact Nat.mul_le_mul_right _ hi
        have hvl : v.cells.toList.length = e.size := by rw [Array.length_toList]; exact k4.2.1
        have hcl : cells.toList.length = cells.size := Array.length_toList
        rw [fill_step (place := fun i => some (i * e.size, e.size)) (i := i) (off := i * e.size) (n := e.size) rfl k4.2.1 hroom]
        obtain ⟨c2, cells', m1, m2, m3, m4, m5, m6, m7⟩ := elemsX_ok (P := P) ps vs (xs.set i x) s1 s' c1 out _ k1
          (All2.imp (fun p q hpq => ⟨hpq.1, RelAV_step k2.step _ _ hpq.2⟩) _ _ hrest)
          (fun r y hy j hj => by
            by_cases hri : r = i
            · subst hri
              rw [List.getElem?_set_self hi] at hy
              cases hy
              obtain ⟨cv, q1, q2⟩ := k4.2.2 j hj
              refine ⟨cv, ?_, q2⟩
              simp only
              rw [newCells_mid cells.toList v.cells.toList _ j (by omega) (by omega)]; simpa using q1
            · rw [List.getElem?_set_ne (Ne.symm hri)] at hy
              obtain ⟨cv, q1, q2⟩ := hr r y hy j hj
              refine ⟨cv, ?_, Ty.cell_mono k2.step.more k2.step.heap e y j cv q2⟩
              simp only at q1 ⊢
              rcases Nat.lt_or_gt_of_ne hri with hlt | hgt
              · have := Nat.mul_le_mul_right e.size (show r + 1 ≤ i by omega)
                rw [Nat.succ_mul] at this
                rw [newCells_lo cells.toList v.cells.toList _ _ (by omega) (by omega)]; simpa using q1
              · have := Nat.mul_le_mul_right e.size (show i + 1 ≤ r by omega)
                rw [Nat.succ_mul] at this
                rw [newCells_hi cells.toList v.cells.toList _ _ (by omega) (by omega)]; simpa using q1)
          (by rw [newCells_size _ _ _ (by omega), hcl, hs]; simp) h
        exact ⟨c2, cells', m1, k2.trans m2, m3.trans k3, m4, m5, m6, by rw [m7]; simp⟩
    · cases h

theorem op_buildSlice {E : Env} {o : Oper} {K : St → Prop} {t : TypeId} {n : Nat} {ps : Array (Nat × Operand)} (ho : o.op = .buildSlice t n ps) (hR : R Γ s c E.N a w) (h : opX E o s K) : OpOk E Γ o s c a w K := by
  unfold opX at h; rw [ho] at h; simp only at h
  split at h
  · rename_i T e hsl
    obtain ⟨hu, ⟨i, hi, hs⟩, hpos⟩ := sliceDOf_some hsl
    cases hb : (zeroB E.P T e && Nat.ble (n * e.size) 65536) with
    | false => rw [hb] at h; exact h.elim
    | true =>
      rw [hb] at h
      simp only [Bool.and_eq_true] at hb
      simp only [cond_true] at h
      have hmx : n * e.size ≤ 65536 := Nat.le_of_ble_eq_true hb.2
      obtain ⟨i2, z, hi2, hz, hzo⟩ := zeroB_some hb.1
      have : i2 = i := by rw [hi] at hi2; simpa using hi2.symm
      subst this
      obtain ⟨p, e1, l1, d1, _⟩ := zeroOk_some (L := s.L) (c := c) (w := w) (S := c.S) e _ _ hzo
      rw [List.append_nil] at e1
      have hzs : z.cells.size = e.size := by rw [← l1, ← e1, Array.length_toList]
      split at h
      · rename_i xs s1 hel
        have hall : ∀ l : List (Nat × Operand), All2 (fun (p : Nat × AV) (q : Nat × Value) => p.1 = q.1 ∧ RelAV s.L c w p.2 q.2) (l.map fun p => (p.1, evalO s p.2)) (l.map fun p => (p.1, a.eval p.2)) := by
          intro l
          induction l with
          | nil => trivial
          | cons p l ih => exact ⟨⟨rfl, evalO_rel hR p.2⟩, ih⟩
        let cells0 : Array Value := (Array.range (n * e.size)).map (z.cells[· % z.cells.size]!)
        obtain ⟨c1, cells', k1, k2, k3, k4, k5, k6, k7⟩ := elemsX_ok (Γ := Γ) (P := E.P) _ _ _ s s1 c xs cells0 hR.rw_ (hall ps.toList)
          (fun r x hx j hj => by
            have hr : r < n := by have := (List.getElem?_eq_some_iff.1 hx).1; simpa using this
            have hxd : x = e.dflt := by simp [hr] at hx; exact hx.symm
            subst hxd
            obtain ⟨cv, q1, q2⟩ := d1 j hj
            refine ⟨cv, ?_, q2⟩
            have hlt : r * e.size + j < n * e.size := by
              have := Nat.mul_le_mul_right e.size (show r + 1 ≤ n by omega)
              rw [Nat.succ_mul] at this; omega
            have hmod : (r * e.size + j) % z.cells.size = j := by rw [hzs, Nat.mul_comm, Nat.mul_add_mod]; exact Nat.mod_eq_of_lt hj
            have hzj : z.cells[j]? = some cv := by rw [← Array.getElem?_toList, e1]; exact q1
            have hzl : j < z.cells.size := by rw [hzs]; exact hj
            simp only [cells0, Array.getElem?_map, Array.getElem?_range, hlt, if_true, Option.map_some, hmod]
            rw [getElem!_pos z.cells j hzl, ← hzj, Array.getElem?_eq_getElem hzl]) (by simp [cells0]) hel
        have hxl : xs.length = n := by rw [k7]; simp
        have hh : ∀ b, b < w.heap.size → (w.alloc (.cells cells' T)).heap[b]? = w.heap[b]? := fun b hb => Go.heap_alloc_old w _ hb
        obtain ⟨m1, m2⟩ := k1.add (o' := .row 0 T e xs) (v' := .slice (some ⟨w.heap.size, 0, none⟩) n n) (w' := w.alloc (.cells cells' T)) ⟨rfl, rfl, rfl, by simp⟩ hh
          (fun b hb => by
            obtain ⟨n', cap', e3⟩ := hb
            simp only [Value.slice.injEq, Option.some.injEq, Addr.mk.injEq] at e3
            simp; omega)
          (fun hst => .inr ⟨w.heap.size, n, cells', by rw [hxl], by unfold maxLen; have := Nat.le_mul_of_pos_right n hpos; omega, by omega, heap_alloc_new w _, by rw [k6, hxl], k5.mono (fun _ h => h) hst.heap⟩)
        refine OpOk.step hR h (k2.trans (Adv.add m2 k1 hh)) k3 m1 ?_ ?_ (fun _ => hh) (v := .slice (some ⟨w.heap.size, 0, none⟩) n n)
        · unfold execOp; rw [ho]
          have hne : ¬ (16777216 < n * e.size) := by omega
          have hps : (ps.map fun (i, x) => (i, a.eval x)).toList = ps.toList.map fun p => (p.1, a.eval p.2) := by simp
          have k4' : Instr.fill (fun i => some (i * e.size, e.size)) (Array.map (fun x => z.cells[x % z.cells.size]!) (Array.range (n * e.size))) (ps.toList.map fun p => (p.1, a.eval p.2)) = some cells' := k4
          simp only [getElem!_def] at k4'
          by_cases hn0 : n * e.size = 0
          · have hr0 : Array.range (n * e.size) = #[] := by rw [hn0]; rfl
            rw [hr0] at k4'
            have k5' : ∀ f : Nat → Value, Instr.fill (fun i => some (i * e.size, e.size)) (Array.map f (Array.range 0)) (List.map (fun x => (x.fst, a.eval x.snd)) ps.toList) = some cells' := by
              intro f
              have hr : Array.map f (Array.range 0) = #[] := by rw [Array.range_zero']; simp
              rw [hr]; simpa using k4'
            simp [Instr.buildSlice, run_underlying hu, run_sizeOf' hi, hs, hn0, newRow]
            simp [k5']
          · simp [Instr.buildSlice, run_underlying hu, run_sizeOf' hi, hs, hne, hn0, zeroValue, typeInfo, hi, hz, newRow]
            simp only [getElem!_def]
            simp [k4']
        · simp only [RelAV, RowAt, St.addL]
          simp [Ctx.set]
      · exact h.elim
  · exact h.elim

theorem op_call_len {E : Env} {o : Oper} {K : St → Prop} {x : Operand} {t : TypeId} (hex : ∀ v w, (Builtin.len_ #[t] o.type #[a.eval x]).run E.P w = .ok v w → (execOp a.eval o).run E.P w = .ok (.value v) w)
    (hR : R Γ s c E.N a w) (h : (match evalO s x with
    | .d (.slice _) xs => (match elemOfSlice E.P t with | some _ => putX E o.dst K (.d (.int .i64) (List.length xs : Int)) s | none => False)
    | .own id ver e => (match elemOfSlice E.P t, rowData s.L id ver e with | some _, some xs => putX E o.dst K (.d (.int .i64) (List.length xs : Int)) s | _, _ => False)
    | .sub id ver e lo hi => (match elemOfSlice E.P t, rowData s.L id ver e with | some _, some _ => putX E o.dst K (.d (.int .i64) ((hi - lo : Int))) s | _, _ => False)
    | .raw (.slice none 0 0) => (match elemOfSlice E.P t with | some _ => putX E o.dst K (.d (.int .i64) (0 : Int)) s | none => False)
    | .d .str x => (match E.P.underlying t with | some .string => putX E o.dst K (.d (.int .i64) (ByteArray.size x : Int)) s | _ => False)
    | .d (.arr n _) _ => (match E.P.underlying t with | some (.array n' _) => bif Nat.beq n n' then putX E o.dst K (.d (.int .i64) (n : Int)) s else False | _ => False)
    | .mp id => (match E.P.underlying t, s.L[id]? with | some (.map _ _), some (.map _ _ es) => putX E o.dst K (.d (.int .i64) (List.length es : Int)) s | _, _ => False)
    | _ => False)) : PlainOk E o s c a w K := by
  have hx := evalO_rel hR x
  split at h
  · rename_i e xs ex
    rw [ex] at hx
    simp only [RelAV] at hx
    obtain ⟨p, cap, hv, _⟩ := Ty.val_one (t := .slice e) rfl hx
    split at h
    · rename_i T hT
      refine OpOk.value hR h (fun w' hw' => hex _ w' ?_) (rel_int _ _)
      rw [hv]; simp [Builtin.len_, run_underlying (elemOfSlice_some hT), goInt]
    · exact h.elim
  · rename_i id ver e ex
    rw [ex] at hx
    split at h
    · rename_i T xs hT hrow
      obtain ⟨T', hL⟩ := rowData_some hrow
      simp only [RelAV, RowAt, hL] at hx
      have hv := hx.2 trivial
      have hr : RowRel c w (c.m id) T' e xs := hR.rw_.objs id _ hL
      refine OpOk.value hR h (fun w' hw' => hex _ w' ?_) (rel_int _ _)
      rcases hr with ⟨h1, h2⟩ | ⟨b, cap, cells, h1, h2, h3, h4, h5, h6⟩
      · rw [hv, h1, h2]; simp [Builtin.len_, run_underlying (elemOfSlice_some hT), goInt]
      · rw [hv, h1]; simp [Builtin.len_, run_underlying (elemOfSlice_some hT), goInt]
    · exact h.elim
  · rename_i id ver e lo hi ex
    rw [ex] at hx
    split at h
    · rename_i T xs hT hrow
      obtain ⟨T', hL⟩ := rowData_some hrow
      simp only [RelAV, RowAt, hL] at hx
      obtain ⟨g0, g1, hv⟩ := hx.2 trivial
      refine OpOk.value hR h (fun w' hw' => hex _ w' ?_) (rel_int _ _)
      rcases hv with ⟨_, rfl, hv⟩ | ⟨b, n, cap, p, q1, q2, q2', q3, q4⟩
      · have : lo = 0 := by omega
        subst this
        rw [hv]; simp [Builtin.len_, run_underlying (elemOfSlice_some hT), goInt]
      · rw [q3]
        have e1 : ((hi.toNat - lo.toNat : Nat) : Int) = hi - lo := by omega
        simp [Builtin.len_, run_underlying (elemOfSlice_some hT), goInt, e1]
    · exact h.elim
  · rename_i ex
    rw [ex] at hx
    simp only [RelAV] at hx
    split at h
    · rename_i T hT
      refine OpOk.value hR h (fun w' hw' => hex _ w' ?_) (rel_int _ _)
      rw [hx]; simp [Builtin.len_, run_underlying (elemOfSlice_some hT), goInt]
    · exact h.elim
  · rename_i y ex
    rw [ex] at hx
    simp only [RelAV] at hx
    have hv := val_str hx
    split at h
    · rename_i hu
      refine OpOk.value hR h (fun w' hw' => hex _ w' ?_) (rel_int _ _)
      rw [hv]; simp [Builtin.len_, run_underlying hu, goInt]
    · exact h.elim
  · rename_i n k l ex
    rw [ex] at hx
    split at h
    · rename_i n' T hu
      cases hb : Nat.beq n n' with
      | false => rw [hb] at h; exact h.elim
      | true =>
        rw [hb] at h
        have := Nat.eq_of_beq_eq_true hb
        subst this
        refine OpOk.value hR h (fun w' hw' => hex _ w' ?_) (rel_int _ _)
        simp [Builtin.len_, run_underlying hu, goInt]
    · exact h.elim
  · rename_i id ex
    rw [ex] at hx
    split at h
    · rename_i _ _ k v es hu hL
      simp only [RelAV] at hx
      obtain ⟨b, entries, clock, h1, h2, h3, h4, _⟩ : ObjRel s.L c w (c.m id) (.map k v es) := hR.rw_.objs id _ hL
      refine OpOk.value hR h (fun w' hw' => hex _ w' ?_) (rel_int _ _)
      have hlen : ∀ {α β : Type} {R : α → β → Prop} (l : List α) (l' : List β), All2 R l l' → l.length = l'.length := by
        intro α β R l
        induction l with
        | nil => intro l' h; cases l' <;> first | rfl | exact h.elim
        | cons x l ih => intro l' h; cases l' with
          | nil => exact h.elim
          | cons y l' => simp [ih l' h.2]
      rw [hx.2, h1]
      have := hlen _ _ h4
      have h2' : w'.heap[b]? = some (.map entries clock) := by rw [hw' b (Array.getElem?_eq_some_iff.1 h2).1]; exact h2
      simp [Builtin.len_, run_underlying hu, goInt, getObj, Sem.run, h2', this]
    · exact h.elim
  · exact h.elim

theorem intsMax_rel {L : List AObj} {k : IntKind} : ∀ {as : List AV} {vs : List Value} {l : List Int}, RelAVs L c w as vs → intsMax k as = some l → vs = l.map (Value.int k)
  | [], vs, l, h, hm => by
    simp only [RelAVs] at h
    simp only [intsMax, Option.some.injEq] at hm
    subst h; subst hm; rfl
  | a :: as, vs, l, h, hm => by
    simp only [RelAVs] at h
    obtain ⟨u, us, rfl, h1, h2⟩ := h
    unfold intsMax at hm
    split at hm
    · rename_i e; cases e
    · rename_i k' x r e
      cases e
      cases hb : decide (k = k') with
      | false => rw [hb] at hm; cases hm
      | true =>
        rw [hb] at hm
        have := of_decide_eq_true hb
        subst this
        simp only [cond_true, Option.map_eq_some_iff] at hm
        obtain ⟨l', hl, rfl⟩ := hm
        simp only [RelAV] at h1
        rw [val_int h1, intsMax_rel h2 hl]; rfl
    · cases hm

theorem run_foldl_max {P : Program} (k : IntKind) : ∀ (l : List Int) (x : Int), ((l.map (Value.int k)).foldlM Builtin.max2 (Value.int k x)).run P w = .ok (.int k (l.foldl (fun x y => if y > x then y else x) x)) w
  | [], x => rfl
  | y :: l, x => by
    simp only [List.map_cons, List.foldlM_cons, List.foldl_cons, Sem.run_bind]
    have : (Builtin.max2 (Value.int k x) (Value.int k y)).run P w = .ok (.int k (if y > x then y else x)) w := rfl
    rw [this, Result.andThen_ok]; exact run_foldl_max k l _

theorem run_foldl_min {P : Program} (k : IntKind) : ∀ (l : List Int) (x : Int), ((l.map (Value.int k)).foldlM Builtin.min2 (Value.int k x)).run P w = .ok (.int k (l.foldl (fun x y => if y < x then y else x) x)) w
  | [], x => rfl
  | y :: l, x => by
    simp only [List.map_cons, List.foldlM_cons, List.foldl_cons, Sem.run_bind]
    have : (Builtin.min2 (Value.int k x) (Value.int k y)).run P w = .ok (.int k (if y < x then y else x)) w := rfl
    rw [this, Result.andThen_ok]; exact run_foldl_min k l _

theorem rels (hR : R Γ s c N a w) : ∀ (l : List Operand), RelAVs s.L c w (l.map (evalO s)) (l.map a.eval)
  | [] => by simp only [List.map_nil, RelAVs]
  | x :: l => by simp only [List.map_cons, RelAVs]; exact ⟨_, _, rfl, evalO_rel hR x, rels hR l⟩

/-- A window of a row is made zero. -/
theorem clear_ok {E : Env} {K : AV → St → Prop} {t ty : TypeId} {x : Operand} (hR : R Γ s c E.N a w) (h : (match evalO s x with
    | .sub id ver e lo hi => bif lockedB s id then False else (match sliceDOf E.P E.ty t, s.L[id]? with
      | some (T, e1), some (.row cv T' e' xs) => bif Nat.beq ver cv && decide (e = e') && decide (e1 = e') && zeroB E.P T e' then
          K (.tup []) (s.setL id (.row cv T' e' (List.take lo.toNat xs ++ List.replicate (hi.toNat - lo.toNat) e'.dflt ++ List.drop hi.toNat xs))) else False
      | _, _ => False)
    | _ => False)) :
    ∃ s' c' w', K (.tup []) s' ∧ Adv s c w s' c' w' ∧ s'.sl = s.sl ∧ RW Γ s'.L c' w' ∧ (Builtin.clear_ #[t] ty #[a.eval x]).run E.P w = .ok (.tuple #[]) w' := by
  have hx := evalO_rel hR x
  split at h
  · rename_i id ver e lo hi ex
    rw [ex] at hx
    cases hlk : lockedB s id with
    | true => rw [hlk] at h; exact h.elim
    | false =>
      rw [hlk] at h
      simp only [cond_false] at h
      split at h
      · rename_i T e1 cv T' e' xs hsl hL
        cases hb : (Nat.beq ver cv && decide (e = e') && decide (e1 = e') && zeroB E.P T e') with
        | false => rw [hb] at h; exact h.elim
        | true =>
          rw [hb] at h
          simp only [Bool.and_eq_true, decide_eq_true_eq] at hb
          obtain ⟨⟨⟨b1, rfl⟩, rfl⟩, b4⟩ := hb
          have := Nat.eq_of_beq_eq_true b1
          subst this
          simp only [cond_true] at h
          obtain ⟨hu, ⟨i, hi', hs⟩, hpos⟩ := sliceDOf_some hsl
          obtain ⟨i2, z, hi2, hz, hzo⟩ := zeroB_some b4
          have : i2 = i := by rw [hi'] at hi2; simpa using hi2.symm
          subst this
          obtain ⟨p, f1, l1, d1, _⟩ := zeroOk_some (L := s.L) (c := c) (w := w) (S := c.S) e1 _ _ hzo
          rw [List.append_nil] at f1
          have hzs : z.cells.size = e1.size := by rw [← l1, ← f1, Array.length_toList]
          simp only [RelAV, RowAt, hL] at hx
          obtain ⟨g0, g1, hv⟩ := hx.2 trivial
          have hrr : RowRel c w (c.m id) T' e1 xs := hR.rw_.objs id _ hL
          have hzv : (zeroValue T).run E.P w = .ok z w := by unfold zeroValue typeInfo; simp only [Sem.run_bind, run_program, Result.andThen_ok, hi2, Sem.run_pure, hz]
          have stay : (hi.toNat - lo.toNat = 0) → List.take lo.toNat xs ++ List.replicate (hi.toNat - lo.toNat) e1.dflt ++ List.drop hi.toNat xs = xs := by
            intro h0
            have : hi = lo := by omega
            rw [h0, this]; simp
          have same : s.setL id (.row ver T' e1 xs) = s := by
            simp only [St.setL]
            have hid := (List.getElem?_eq_some_iff.1 hL)
            obtain ⟨q1, q2⟩ := hid
            have : s.L.set id (.row ver T' e1 xs) = s.L := by rw [← q2]; exact List.set_getElem_self q1
            rw [this]
          by_cases h0 : hi.toNat - lo.toNat = 0
          · rw [stay h0, same] at h
            refine ⟨s, c, w, h, Adv.refl _ _ _, rfl, hR.rw_, ?_⟩
            rcases hv with ⟨_, _, hv⟩ | ⟨b, n, cap, q, q1, q2, q2', q3, q4⟩
            · rw [hv]; simp [Builtin.clear_, run_underlying hu]
            · rw [q3, h0]; simp [Builtin.clear_, run_underlying hu]
          · rcases hv with ⟨_, rfl, hv⟩ | ⟨b, n, cap, q, q1, q2, q2', q3, q4⟩
            · omega
            · have hq := q4 (by omega)
              subst hq
              rcases hrr with ⟨r1, r2⟩ | ⟨b', cap', cells, r1, r2, r3, r4, r5, r6⟩
              · rw [q1] at r1; cases r1
              · have r1' := r1
                rw [q1] at r1
                simp only [Value.slice.injEq, Option.some.injEq, Addr.mk.injEq, and_true] at r1
                obtain ⟨rfl, rfl, rfl⟩ := r1
                have hlo : lo.toNat ≤ hi.toNat := by omega
                have hhi : hi.toNat ≤ xs.length := by omega
                let zs : List Value := (Builtin.zeroCells z.cells (hi.toNat - lo.toNat)).toList
                have hzl : zs.length = (hi.toNat - lo.toNat) * e1.size := by simp [zs, Builtin.zeroCells, hzs]
                have m1 : lo.toNat * e1.size + (hi.toNat - lo.toNat) * e1.size = hi.toNat * e1.size := by rw [← Nat.add_mul]; congr 1; omega
                have m2 : hi.toNat * e1.size ≤ cells.size := by rw [r5]; exact Nat.mul_le_mul_right _ (by omega)
                have hzat : ∀ r j, r < hi.toNat - lo.toNat → j < e1.size → ∃ cv, zs[r * e1.size + j]? = some cv ∧ e1.cell c.S w e1.dflt j cv := by
                  intro r j hr hj
                  obtain ⟨cv, k1, k2⟩ := d1 j hj
                  refine ⟨cv, ?_, k2⟩
                  have hlt : r * e1.size + j < (hi.toNat - lo.toNat) * e1.size := by
                    have := Nat.mul_le_mul_right e1.size (show r + 1 ≤ hi.toNat - lo.toNat by omega)
                    rw [Nat.succ_mul] at this; omega
                  have hmod : (r * e1.size + j) % z.cells.size = j := by rw [hzs, Nat.mul_comm, Nat.mul_add_mod]; exact Nat.mod_eq_of_lt hj
                  have hzj : z.cells[j]? = some cv := by rw [← Array.getElem?_toList, f1]; exact k1
                  have hzlt : j < z.cells.size := by rw [hzs]; exact hj
                  simp only [zs, Builtin.zeroCells, Array.toList_map, List.getElem?_map, Array.toList_range, hzs]
                  rw [List.getElem?_range hlt]
                  simp only [Option.map_some]
                  rw [hzs] at hmod
                  rw [hmod, getElem!_pos z.cells j hzlt, ← hzj, Array.getElem?_eq_getElem hzlt]
                have hone : ∀ u ∈ zs, u.oneCell' = true := by
                  intro u hu'
                  obtain ⟨k, hk⟩ := List.getElem?_of_mem hu'
                  have hkl : k < (hi.toNat - lo.toNat) * e1.size := by rw [← hzl]; exact (List.getElem?_eq_some_iff.1 hk).1
                  obtain ⟨cv, k1, k2⟩ := hzat (k / e1.size) (k % e1.size) (Nat.div_lt_of_lt_mul (by rw [Nat.mul_comm]; exact hkl)) (Nat.mod_lt _ hpos)
                  rw [Nat.mul_comm, Nat.div_add_mod] at k1
                  rw [k1] at hk; cases hk
                  exact cell_one e1 _ _ _ k2
                have hrun := run_storeCells_at E.P b (lo.toNat * e1.size) T' zs 0 cells w r4 (by rw [hzl, Nat.add_zero, m1]; exact m2) hone
                simp only [Nat.add_zero] at hrun
                have hh' : ∀ b', b' < w.heap.size → ¬ Owns (.row ver T' e1 xs) (c.m id) b' → (w.setRow b (cells.toList.take (lo.toNat * e1.size) ++ zs ++ cells.toList.drop (lo.toNat * e1.size + zs.length)).toArray).heap[b']? = w.heap[b']? :=
                  fun b' _ hno => setRow_other w b b' _ (fun e => hno (by rw [e]; exact ⟨_, _, r1'⟩))
                have hcl : cells.toList.length = cells.size := Array.length_toList
                obtain ⟨k1, k2⟩ := hR.rw_.chg hL (o' := .row ver T' e1 (List.take lo.toNat xs ++ List.replicate (hi.toNat - lo.toNat) e1.dflt ++ List.drop hi.toNat xs)) (v' := c.m id) (Alike.setRow w b _) hh'
                  (fun b' hb' => ⟨.inl (by obtain ⟨n', cap', e1⟩ := hb'; exact ⟨n', cap', e1⟩), by obtain ⟨n', cap', e1⟩ := hb'; have := (hR.rw_.owns id _ b' hL ⟨n', cap', e1⟩).2.1; simpa using this⟩) (by simp [Evol]) (iter_ne hR.rw_ hL (by intro _ _ _ e; cases e))
                  (fun hst => by
                    have hlen : (List.take lo.toNat xs ++ List.replicate (hi.toNat - lo.toNat) e1.dflt ++ List.drop hi.toNat xs).length = xs.length := by simp; omega
                    refine .inr ⟨b, cap, _, by rw [hlen]; exact r1', r2, by rw [hlen]; exact r3, setRow_heap w b cells _ T' (0, 0) r4, by rw [newCells_size _ _ _ (by rw [hcl, hzl, m1]; exact m2), hcl, r5], fun r y hy j hj => ?_⟩
                    by_cases c1 : r < lo.toNat
                    · rw [List.append_assoc, List.getElem?_append_left (by simp; omega), List.getElem?_take_of_lt c1] at hy
                      obtain ⟨cv, p1, p2⟩ := r6 r y hy j hj
                      refine ⟨cv, ?_, Ty.cell_mono hst.more hst.heap e1 y j cv p2⟩
                      have := Nat.mul_le_mul_right e1.size (show r + 1 ≤ lo.toNat by omega)
                      rw [Nat.succ_mul] at this
                      rw [newCells_lo _ _ _ _ (by rw [hcl]; omega) (by omega)]; simpa using p1
                    · by_cases c2 : r < hi.toNat
                      · have hy' : y = e1.dflt := by
                          rw [List.append_assoc, List.getElem?_append_right (by simp; omega)] at hy
                          rw [List.getElem?_append_left (by simp; omega)] at hy
                          simp only [List.length_take] at hy
                          rw [List.getElem?_replicate] at hy
                          split at hy
                          · simpa using hy.symm
                          · cases hy
                        subst hy'
                        obtain ⟨cv, p1, p2⟩ := hzat (r - lo.toNat) j (by omega) hj
                        refine ⟨cv, ?_, Ty.cell_mono hst.more hst.heap e1 _ j cv p2⟩
                        have e2 : r * e1.size + j = lo.toNat * e1.size + ((r - lo.toNat) * e1.size + j) := by
                          rw [← Nat.add_assoc, ← Nat.add_mul]; congr 2; omega
                        have hlt : (r - lo.toNat) * e1.size + j < zs.length := (List.getElem?_eq_some_iff.1 p1).1
                        rw [e2, newCells_mid _ _ _ _ (by rw [hcl]; omega) hlt]; exact p1
                      · rw [List.getElem?_append_right (by simp; omega)] at hy
                        simp only [List.length_append, List.length_take, List.length_replicate] at hy
                        rw [List.getElem?_drop] at hy
                        have e2 : hi.toNat + (r - (min lo.toNat xs.length + (hi.toNat - lo.toNat))) = r := by omega
                        rw [e2] at hy
                        obtain ⟨cv, p1, p2⟩ := r6 r y hy j hj
                        refine ⟨cv, ?_, Ty.cell_mono hst.more hst.heap e1 y j cv p2⟩
                        have := Nat.mul_le_mul_right e1.size (show hi.toNat ≤ r by omega)
                        rw [newCells_hi _ _ _ _ (by rw [hcl, hzl, m1]; exact m2) (by rw [hzl, m1]; omega)]; simpa using p1)
                refine ⟨_, _, _, h, Adv.chg k2 hR.rw_ hL (lockedB_false hlk) hh', rfl, k1, ?_⟩
                rw [q3]
                obtain ⟨n0, hn0⟩ : ∃ n0, hi.toNat - lo.toNat = n0 + 1 := ⟨hi.toNat - lo.toNat - 1, by omega⟩
                have hrun' : (storeCells ⟨b, lo.toNat * e1.size, none⟩ (Builtin.zeroCells z.cells (hi.toNat - lo.toNat)).toList).run E.P w = .ok () (w.setRow b (cells.toList.take (lo.toNat * e1.size) ++ zs ++ cells.toList.drop (lo.toNat * e1.size + zs.length)).toArray) := hrun
                rw [hn0] at hrun' ⊢
                simp [Builtin.clear_, run_underlying hu, hzv, hrun', Result.andThen]
      · exact h.elim
  · exact h.elim

theorem exec_builtin {P : Program} {o : Oper} {cl : Call} {b : Builtin} (ho : o.op = .call cl) (hb : cl.callee = .builtin b) (ρ : Operand → Value) :
    execOp ρ o = (builtin b cl.argTypes o.type (cl.args.map fun | .const _ => true | _ => false) (cl.args.map ρ)) := by
  unfold execOp; rw [ho]; simp only [resolve, hb]; rfl

theorem op_call {E : Env} {o : Oper} {K : St → Prop} {cl : Call} (hH : HOk Γ E) (he : EqvOk E) (ho : o.op = .call cl) (hR : R Γ s c E.N a w) (h : opX E o s K) : OpOk E Γ o s c a w K := by
  unfold opX at h; rw [ho] at h; simp only at h
  split at h
  · rename_i b hb
    have hex := exec_builtin (P := E.P) ho hb a.eval
    obtain ⟨callee, args, argTypes⟩ := cl
    simp only at hb hex h
    unfold callBuiltin at h
    split at h
    · rename_i x t h1 h2
      obtain ⟨y, hy⟩ : ∃ y, args.toList = [y] := by
        cases hq : args.toList with
        | nil => simp [hq] at h1
        | cons y r => cases r <;> simp [hq] at h1; exact ⟨y, rfl⟩
      have ha : args = #[y] := by cases args; simp at hy; simp [hy]
      have ht : argTypes = #[t] := by cases argTypes; simp at h2; simp [h2]
      subst ha; subst ht
      have hx : x = evalO s y := by simpa using h1.symm
      subst hx
      refine PlainOk.ok (op_call_len (t := t) (x := y) (fun v w hv => ?_) hR h) hR
      rw [hex]
      simp [builtin, hv]
    · rename_i x t h1 h2
      obtain ⟨y, hy⟩ : ∃ y, args.toList = [y] := by
        cases hq : args.toList with
        | nil => simp [hq] at h1
        | cons y r => cases r <;> simp [hq] at h1; exact ⟨y, rfl⟩
      have ha : args = #[y] := by cases args; simp at hy; simp [hy]
      have ht : argTypes = #[t] := by cases argTypes; simp at h2; simp [h2]
      subst ha; subst ht
      have hx : x = evalO s y := by simpa using h1.symm
      subst hx
      obtain ⟨s', c', w', k1, k2, k3, k4, k5⟩ := clear_ok (ty := o.type) (K := fun v s' => putX E o.dst K v s') hR h
      refine OpOk.step hR k1 k2 k3 k4 ?_ ?_ (fun hq => ?_) (v := .tuple #[])
      · rw [hex]
        simp only [List.map_toArray, List.map_cons, List.map_nil]
        simp only [builtin]
        have k5' : (Builtin.clear_ #[t] o.type #[a.eval y]).run E.P w = .ok (.tuple #[]) w' := k5
        simp [k5']
      · simp only [RelAV]; exact ⟨#[], rfl, by simp only [RelAVs]⟩
      · rw [ho] at hq; simp [quietOp, plainOp, hb] at hq
    · rename_i x y t ts h1 h2
      obtain ⟨y', z', hy⟩ : ∃ y z, args.toList = [y, z] := by
        cases hq : args.toList with
        | nil => simp [hq] at h1
        | cons y r => cases r with
          | nil => simp [hq] at h1
          | cons z r => cases r <;> simp [hq] at h1; exact ⟨y, z, rfl⟩
      have ha : args = #[y', z'] := by cases args; simp at hy; simp [hy]
      have ht : argTypes = (t :: ts).toArray := by cases argTypes; simp at h2; simp [h2]
      subst ha; subst ht
      simp only [List.map_cons, List.map_nil, List.cons.injEq, and_true] at h1
      obtain ⟨rfl, rfl⟩ := h1
      obtain ⟨s', c', w', k1, k2, k3, k4, k5⟩ := delete_ok (ts := ts.toArray) (ty := o.type) (K := fun v s' => putX E o.dst K v s') he hR h
      refine OpOk.step hR k1 k2 k3 k4 ?_ ?_ (fun hq => ?_) (v := .tuple #[])
      · rw [hex]
        simp only [List.map_toArray, List.map_cons, List.map_nil]
        simp only [builtin]
        have k5' : (Builtin.delete_ (t :: ts).toArray o.type #[a.eval y', a.eval z']).run E.P w = .ok (.tuple #[]) w' := by simpa using k5
        simp [k5']
      · simp only [RelAV]; exact ⟨#[], rfl, by simp only [RelAVs]⟩
      · rw [ho] at hq; simp [quietOp, plainOp, hb] at hq
    · rename_i p x t t' h1 h2
      obtain ⟨y, z, hy⟩ : ∃ y z, args.toList = [y, z] := by
        cases hq : args.toList with
        | nil => simp [hq] at h1
        | cons y r => cases r with
          | nil => simp [hq] at h1
          | cons z r => cases r <;> simp [hq] at h1; exact ⟨y, z, rfl⟩
      have ha : args = #[y, z] := by cases args; simp at hy; simp [hy]
      have ht : argTypes = #[t, t'] := by cases argTypes; simp at h2; simp [h2]
      subst ha; subst ht
      simp only [List.map_cons, List.map_nil, List.cons.injEq, and_true] at h1
      obtain ⟨rfl, rfl⟩ := h1
      cases hbb : Nat.beq t t' with
      | false => rw [hbb] at h; exact h.elim
      | true =>
        rw [hbb] at h
        have := Nat.eq_of_beq_eq_true hbb
        subst this
        refine op_append (t := t) (x := y) (y := z) (by rw [ho, hb]; rfl) (fun v w' hv => ?_) hR h
        rw [hex]
        simp [builtin, hv]
    · rename_i p r _ h1
      have hr := rels hR args.toList
      rw [h1] at hr
      simp only [RelAVs] at hr
      obtain ⟨u, us, hu, hr1, hr2⟩ := hr
      split at h
      · rename_i k x
        simp only [RelAV] at hr1
        have hv := val_int hr1
        split at h
        · rename_i l hl
          have hm := intsMax_rel hr2 hl
          refine PlainOk.ok (OpOk.value hR h (fun w' _ => ?_) (rel_int _ _)) hR
          rw [hex]
          have : (Builtin.max_ argTypes o.type (args.map a.eval)).run E.P w' = .ok (.int k (l.foldl (fun x y => if y > x then y else x) x)) w' := by
            unfold Builtin.max_
            rw [Array.toList_map, hu]
            simp only [hv, hm]
            exact run_foldl_max k l x
          simp [builtin, this]
        · exact h.elim
      · exact h.elim
    · rename_i p r _ h1
      have hr := rels hR args.toList
      rw [h1] at hr
      simp only [RelAVs] at hr
      obtain ⟨u, us, hu, hr1, hr2⟩ := hr
      split at h
      · rename_i k x
        simp only [RelAV] at hr1
        have hv := val_int hr1
        split at h
        · rename_i l hl
          have hm := intsMax_rel hr2 hl
          refine PlainOk.ok (OpOk.value hR h (fun w' _ => ?_) (rel_int _ _)) hR
          rw [hex]
          have : (Builtin.min_ argTypes o.type (args.map a.eval)).run E.P w' = .ok (.int k (l.foldl (fun x y => if y < x then y else x) x)) w' := by
            unfold Builtin.min_
            rw [Array.toList_map, hu]
            simp only [hv, hm]
            exact run_foldl_min k l x
          simp [builtin, this]
        · exact h.elim
      · exact h.elim
    · exact h.elim
  · rename_i f hf
    split at h
    · rename_i g fs cs eg
      have hfv := evalO_rel hR f
      rw [eg] at hfv
      simp only [RelAV] at hfv
      obtain ⟨fa, ca, hv, hfs, hcs⟩ := hfv
      obtain ⟨⟨fn, cd, hfn, hbody, hname⟩, hcalls⟩ := hH _ _ _ _ h
      have happ : ∀ {as bs : List AV} {us vs : List Value}, RelAVs s.L c w as us → RelAVs s.L c w bs vs → RelAVs s.L c w (as ++ bs) (us ++ vs) := by
        intro as
        induction as with
        | nil => intro bs us vs h1 h2; simp only [RelAVs] at h1; subst h1; exact h2
        | cons x as ih =>
          intro bs us vs h1 h2
          simp only [RelAVs] at h1
          obtain ⟨u, us', rfl, h3, h4⟩ := h1
          simp only [List.cons_append, RelAVs]
          exact ⟨u, _, rfl, h3, ih h4 h2⟩
      have hall := happ (happ hfs (rels hR cl.args.toList)) hcs
      have hC := hcalls c w _ hR.rw_ hall
      intro W next Q hW hn
      unfold Oper.wp
      have hrun : (execOp a.eval o).run E.P w = .ok (.enter g (fa ++ cl.args.map a.eval ++ ca)) w := by
        unfold execOp; rw [ho]
        simp only [resolve, hf, hv, Deferred.ofValue, invoke, callFunc, Sem.run_bind, Sem.run_pure, Result.andThen_ok, run_program, hfn, hbody, hname]
        simp
      rw [hrun]
      simp only [Oper.upon]
      have hargs : (fa.toList ++ cl.args.toList.map a.eval ++ ca.toList).toArray = fa ++ cl.args.map a.eval ++ ca := by
        apply Array.ext'; simp
      rw [hargs] at hC
      refine hC.mono fun e w' he => ?_
      obtain ⟨v, av, s', c', rfl, hK, hsl, hadv, hw', hrel, hqe⟩ := he
      refine put_done hR hK hadv hsl hw' hrel hW (fun hq => hqe ?_) hn
      rw [ho] at hq
      have hcc := hf
      obtain ⟨callee, args, argTypes⟩ := cl
      simp only at hcc
      subst hcc
      simp only [quietOp, plainOp, Bool.false_or] at hq
      split at hq
      · rename_i e
        simp only [Callee.value.injEq] at e
        subst e
        simp only [evalO, AV.fn.injEq] at eg
        rw [← eg.1]; exact hq
      · cases hq
    · exact h.elim
  · exact h.elim

theorem bound_ok {P : Program} {x : Option Operand} {d : Int} {ret : Int → Prop} {y : Nat} {code : BoundsCode} (hR : R Γ s c N a w) (h : boundX (x.map (evalO s)) d ret) :
    ∃ l : Int, ret l ∧ ((x = none ∧ l = d) ∨ ∃ z k, x = some z ∧ a.eval z = .int k l) := by
  unfold boundX at h
  cases x with
  | none => exact ⟨d, h, .inl ⟨rfl, rfl⟩⟩
  | some z =>
    simp only [Option.map_some] at h
    have hz := evalO_rel hR z
    split at h
    · rename_i e; cases e
    · rename_i k l e
      simp only [Option.some.injEq] at e
      rw [e] at hz
      simp only [RelAV] at hz
      exact ⟨l, h, .inr ⟨z, k, rfl, val_int hz⟩⟩
    · exact h.elim

theorem run_sliceBound {P : Program} {k : IntKind} {i : Int} {y : Nat} {code : BoundsCode} (h0 : 0 ≤ i) (h1 : i ≤ y) : (Instr.sliceBound (.int k i) y code).run P w = .ok i.toNat w := by
  simp [Instr.sliceBound, asIntOf, h0, h1]

theorem op_slice {E : Env} {o : Oper} {K : St → Prop} {t : TypeId} {x : Operand} {lo hi mx : Option Operand} (ho : o.op = .slice t x lo hi mx) (hR : R Γ s c E.N a w) (h : opX E o s K) : PlainOk E o s c a w K := by
  have hx := evalO_rel hR x
  unfold opX at h; rw [ho] at h; simp only at h
  unfold sliceX at h
  split at h
  · rename_i e xs ex
    rw [ex] at hx
    simp only [RelAV] at hx
    split at h
    · rename_i T hT hmx
      have hmx' : mx = none := by cases mx with
        | none => rfl
        | some z => simp at hmx
      subst hmx'
      have hu := elemOfSlice_some hT
      cases hb : szB E.P T e.size with
      | false => rw [hb] at h; exact h.elim
      | true =>
        rw [hb] at h
        simp only [cond_true] at h
        obtain ⟨inf, hi', hs⟩ := szB_some hb
        obtain ⟨l, h, hl⟩ := bound_ok (P := E.P) (y := 0) (code := .index) hR h
        obtain ⟨r, h, hr⟩ := bound_ok (P := E.P) (y := 0) (code := .index) hR h
        obtain ⟨⟨g0, g1, g2⟩, h⟩ := h
        obtain ⟨p, cap, hv, hcap, hnil, hc⟩ := Ty.val_one (t := .slice e) rfl hx
        have hrun : ∀ w, (Instr.sliceAt t (a.eval x) (lo.map a.eval) (hi.map a.eval) none).run E.P w = .ok (.slice (if cap = l.toNat then p else p.map (·.add (l.toNat * e.size))) (r.toNat - l.toNat) (cap - l.toNat)) w := by
          intro w
          have hbounds : (Instr.sliceBounds true xs.length cap (lo.map a.eval) (hi.map a.eval) none).run E.P w = .ok (l.toNat, r.toNat, cap) w := by
            unfold Instr.sliceBounds
            rcases hl with ⟨rfl, rfl⟩ | ⟨z, k, rfl, hz⟩ <;> rcases hr with ⟨rfl, rfl⟩ | ⟨z', k', rfl, hz'⟩
            · simp
            · simp [hz', run_sliceBound (P := E.P) (w := w) (show 0 ≤ r by omega) (show r ≤ (cap : Int) by omega)]
            · simp [hz, run_sliceBound (P := E.P) (w := w) g0 (show l ≤ (xs.length : Int) by omega)]
            · simp [hz, hz', run_sliceBound (P := E.P) (w := w) (show 0 ≤ r by omega) (show r ≤ (cap : Int) by omega), run_sliceBound (P := E.P) (w := w) (y := r.toNat) g0 (by omega)]
          rw [hv]
          simp [Instr.sliceAt, Instr.slice, run_underlying hu, hbounds, run_sizeOf' hi', hs]
        refine OpOk.value hR h (v := .slice (if cap = l.toNat then p else p.map (·.add (l.toNat * e.size))) (r.toNat - l.toNat) (cap - l.toNat)) (fun w' _ => ?_) ?_
        · unfold execOp; rw [ho]; simp only [Option.map_none, Sem.run_bind, hrun, Result.andThen_ok]; rfl
        · simp only [RelAV]
          have hlen : (List.take (r - l).toNat (List.drop l.toNat xs)).length = r.toNat - l.toNat := by
            rw [List.length_take, List.length_drop]; omega
          refine Ty.val_of_cell (t := .slice e) rfl ⟨_, cap - l.toNat, by rw [hlen], by rw [hlen]; omega, fun hn => ?_, fun hne => ?_⟩
          · split at hn
            · omega
            · have : p = none := by cases p <;> simp at hn ⊢
              have := hnil this; omega
          · have hpos : 0 < r.toNat - l.toNat := by rw [← hlen]; exact List.length_pos_iff.2 hne
            have hxne : xs ≠ [] := by intro e; rw [e] at g2; simp at g2; omega
            obtain ⟨b, o', rfl, hb', hcells⟩ := hc hxne
            have hcl : ¬ cap = l.toNat := by omega
            refine ⟨b, o' + l.toNat * e.size, by rw [if_neg hcl]; simp [Addr.add_mid], hb', fun i y hy j hj => ?_⟩
            have hy' : xs[l.toNat + i]? = some y := by
              have hlt := (List.getElem?_eq_some_iff.1 hy).1
              rw [hlen] at hlt
              rw [List.getElem?_take_of_lt (by omega), List.getElem?_drop] at hy
              exact hy
            obtain ⟨cv, q1, q2⟩ := hcells _ y hy' j hj
            refine ⟨cv, ?_, q2⟩
            rw [Nat.add_mul] at q1
            rw [show o' + l.toNat * e.size + (i * e.size + j) = o' + (l.toNat * e.size + i * e.size + j) by omega]; exact q1
    · exact h.elim
  · rename_i id ver e ex
    rw [ex] at hx
    split at h
    · rename_i T xs hT hmx hrow
      have hmx' : mx = none := by cases mx with
        | none => rfl
        | some z => simp at hmx
      subst hmx'
      have hu := elemOfSlice_some hT
      obtain ⟨T', hL⟩ := rowData_some hrow
      simp only [RelAV, RowAt, hL] at hx
      have hv := hx.2 trivial
      have hrr : RowRel c w (c.m id) T' e xs := hR.rw_.objs id _ hL
      cases hb : szB E.P T e.size with
      | false => rw [hb] at h; exact h.elim
      | true =>
        rw [hb] at h
        simp only [cond_true] at h
        obtain ⟨inf, hi', hs⟩ := szB_some hb
        obtain ⟨l, h, hl⟩ := bound_ok (P := E.P) (y := 0) (code := .index) hR h
        obtain ⟨r, h, hr⟩ := bound_ok (P := E.P) (y := 0) (code := .index) hR h
        obtain ⟨⟨g0, g1, g2⟩, h⟩ := h
        obtain ⟨p, cap, hvv, hcap, hp⟩ : ∃ p cap, a.eval x = .slice p xs.length cap ∧ xs.length ≤ cap ∧ ((p = none ∧ xs = [] ∧ cap = 0 ∧ c.m id = .slice none 0 0) ∨ ∃ b, p = some ⟨b, 0, none⟩ ∧ c.m id = .slice (some ⟨b, 0, none⟩) xs.length cap) := by
          rcases hrr with ⟨h1, h2⟩ | ⟨b, cap, cells, h1, h2, h3, h4, h5, h6⟩
          · exact ⟨none, 0, by rw [hv, h1, h2]; rfl, by rw [h2]; simp, .inl ⟨rfl, h2, rfl, h1⟩⟩
          · exact ⟨_, cap, by rw [hv, h1], h3, .inr ⟨b, rfl, h1⟩⟩
        have hrun : ∀ w, (Instr.sliceAt t (a.eval x) (lo.map a.eval) (hi.map a.eval) none).run E.P w = .ok (.slice (if cap = l.toNat then p else p.map (·.add (l.toNat * e.size))) (r.toNat - l.toNat) (cap - l.toNat)) w := by
          intro w
          have hbounds : (Instr.sliceBounds true xs.length cap (lo.map a.eval) (hi.map a.eval) none).run E.P w = .ok (l.toNat, r.toNat, cap) w := by
            unfold Instr.sliceBounds
            rcases hl with ⟨rfl, rfl⟩ | ⟨z, k, rfl, hz⟩ <;> rcases hr with ⟨rfl, rfl⟩ | ⟨z', k', rfl, hz'⟩
            · simp
            · simp [hz', run_sliceBound (P := E.P) (w := w) (show 0 ≤ r by omega) (show r ≤ (cap : Int) by omega)]
            · simp [hz, run_sliceBound (P := E.P) (w := w) g0 (show l ≤ (xs.length : Int) by omega)]
            · simp [hz, hz', run_sliceBound (P := E.P) (w := w) (show 0 ≤ r by omega) (show r ≤ (cap : Int) by omega), run_sliceBound (P := E.P) (w := w) (y := r.toNat) g0 (by omega)]
          rw [hvv]
          simp [Instr.sliceAt, Instr.slice, run_underlying hu, hbounds, run_sizeOf' hi', hs]
        refine OpOk.value hR h (v := .slice (if cap = l.toNat then p else p.map (·.add (l.toNat * e.size))) (r.toNat - l.toNat) (cap - l.toNat)) (fun w' _ => ?_) ?_
        · unfold execOp; rw [ho]; simp only [Option.map_none, Sem.run_bind, hrun, Result.andThen_ok]; rfl
        · simp only [RelAV, RowAt, hL]
          refine ⟨Nat.le_refl _, fun _ => ⟨g0, g1, ?_⟩⟩
          rcases hp with ⟨rfl, rfl, rfl, h1⟩ | ⟨b, rfl, h1⟩
          · have hr0 : r = 0 := by simp at g2; omega
            have hl0 : l = 0 := by omega
            subst hr0; subst hl0
            exact .inl ⟨h1, rfl, by simp⟩
          · refine .inr ⟨b, xs.length, cap, if cap = l.toNat then ⟨b, 0, none⟩ else (⟨b, 0, none⟩ : Addr).add (l.toNat * e.size), h1, g2, hcap, ?_, fun hlt => ?_⟩
            · split <;> rfl
            · rw [if_neg (by omega)]; simp [Addr.add_mid]
    · exact h.elim
  · rename_i y ex
    rw [ex] at hx
    simp only [RelAV] at hx
    have hv := val_str hx
    split at h
    · rename_i hu hmx
      have hmx' : mx = none := by cases mx with
        | none => rfl
        | some z => simp at hmx
      subst hmx'
      obtain ⟨l, h, hl⟩ := bound_ok (P := E.P) (y := 0) (code := .index) hR h
      obtain ⟨r, h, hr⟩ := bound_ok (P := E.P) (y := 0) (code := .index) hR h
      obtain ⟨⟨g0, g1, g2⟩, h⟩ := h
      have g2' : r ≤ (y.size : Int) := g2
      refine OpOk.value hR h (v := .string (ByteArray.extract y l.toNat r.toNat)) (fun w _ => ?_) (rel_str _)
      have hbounds : (Instr.sliceBounds false y.size y.size (lo.map a.eval) (hi.map a.eval) none).run E.P w = .ok (l.toNat, r.toNat, y.size) w := by
        unfold Instr.sliceBounds
        rcases hl with ⟨rfl, rfl⟩ | ⟨z, k, rfl, hz⟩ <;> rcases hr with ⟨rfl, rfl⟩ | ⟨z', k', rfl, hz'⟩
        · simp
        · simp [hz', run_sliceBound (P := E.P) (w := w) (show 0 ≤ r by omega) g2']
        · simp [hz, run_sliceBound (P := E.P) (w := w) g0 (show l ≤ (y.size : Int) by omega)]
        · simp [hz, hz', run_sliceBound (P := E.P) (w := w) (show 0 ≤ r by omega) g2', run_sliceBound (P := E.P) (w := w) (y := r.toNat) g0 (by omega)]
      unfold execOp; rw [ho]
      simp [Instr.sliceAt, Instr.slice, run_underlying hu, hv, hbounds]
    · exact h.elim
  · exact h.elim

theorem plain_move {x : Operand} (h : plainOp (.move x) = false) : x = .const (.slice none 0 0) := by
  cases x with
  | const v =>
    cases v with
    | slice p n k => cases p <;> cases n <;> cases k <;> first | rfl | cases h
    | _ => cases h
  | _ => cases h

theorem plain_assign {x : Operand} (h : plainOp (.assign x) = false) : x = .const (.slice none 0 0) := by
  cases x with
  | const v =>
    cases v with
    | slice p n k => cases p <;> cases n <;> cases k <;> first | rfl | cases h
    | _ => cases h
  | _ => cases h

theorem op_plainCall {E : Env} {o : Oper} {K : St → Prop} {cl : Call} (hp : plainOp o.op = true) (ho : o.op = .call cl) (hR : R Γ s c E.N a w) (h : opX E o s K) : PlainOk E o s c a w K := by
  rw [ho] at hp
  unfold opX at h; rw [ho] at h; simp only at h
  split at h
  · rename_i b hb
    have hex := exec_builtin (P := E.P) ho hb a.eval
    obtain ⟨callee, args, argTypes⟩ := cl
    simp only at hb hex h
    subst hb
    unfold callBuiltin at h
    split at h
    · rename_i x t h1 h2
      obtain ⟨y, hy⟩ : ∃ y, args.toList = [y] := by
        cases hq : args.toList with
        | nil => simp [hq] at h1
        | cons y r => cases r <;> simp [hq] at h1; exact ⟨y, rfl⟩
      have ha : args = #[y] := by cases args; simp at hy; simp [hy]
      have ht : argTypes = #[t] := by cases argTypes; simp at h2; simp [h2]
      subst ha; subst ht
      have hx : x = evalO s y := by simpa using h1.symm
      subst hx
      refine op_call_len (t := t) (x := y) (fun v w hv => ?_) hR h
      rw [hex]
      simp [builtin, hv]
    · cases hp
    · cases hp
    · cases hp
    · rename_i p r _ h1
      have hr := rels hR args.toList
      rw [h1] at hr
      simp only [RelAVs] at hr
      obtain ⟨u, us, hu, hr1, hr2⟩ := hr
      split at h
      · rename_i k x
        simp only [RelAV] at hr1
        have hv := val_int hr1
        split at h
        · rename_i l hl
          have hm := intsMax_rel hr2 hl
          refine OpOk.value hR h (fun w' _ => ?_) (rel_int _ _)
          rw [hex]
          have : (Builtin.max_ argTypes o.type (args.map a.eval)).run E.P w' = .ok (.int k (l.foldl (fun x y => if y > x then y else x) x)) w' := by
            unfold Builtin.max_
            rw [Array.toList_map, hu]
            simp only [hv, hm]
            exact run_foldl_max k l x
          simp [builtin, this]
        · exact h.elim
      · exact h.elim
    · rename_i p r _ h1
      have hr := rels hR args.toList
      rw [h1] at hr
      simp only [RelAVs] at hr
      obtain ⟨u, us, hu, hr1, hr2⟩ := hr
      split at h
      · rename_i k x
        simp only [RelAV] at hr1
        have hv := val_int hr1
        split at h
        · rename_i l hl
          have hm := intsMax_rel hr2 hl
          refine OpOk.value hR h (fun w' _ => ?_) (rel_int _ _)
          rw [hex]
          have : (Builtin.min_ argTypes o.type (args.map a.eval)).run E.P w' = .ok (.int k (l.foldl (fun x y => if y < x then y else x) x)) w' := by
            unfold Builtin.min_
            rw [Array.toList_map, hu]
            simp only [hv, hm]
            exact run_foldl_min k l x
          simp [builtin, this]
        · exact h.elim
      · exact h.elim
    · exact h.elim
  · rename_i f hf
    simp only [plainOp, hf] at hp
    cases hp
  · exact h.elim

/-- The plain ones. -/
theorem plain_ok {E : Env} {o : Oper} {K : St → Prop} (he : EqvOk E) (hp : plainOp o.op = true) (hR : R Γ s c E.N a w) (h : opX E o s K) : PlainOk E o s c a w K := by
  cases ho : o.op with
  | move x => exact op_move (fun T => by rw [ho] at hp; by_cases e : x = .const T; (by_cases e' : T = .slice none 0 0; (subst e; subst e'; cases hp); exact .inr e'); exact .inl e) (.inl ho) hR h
  | assign x => exact op_move (fun T => by rw [ho] at hp; by_cases e : x = .const T; (by_cases e' : T = .slice none 0 0; (subst e; subst e'; cases hp); exact .inr e'); exact .inl e) (.inr ho) hR h
  | pick x y z => exact op_pick ho hR h
  | load t x => exact op_load ho hR h
  | nilCheck x => exact op_nilCheck ho hR h
  | binOp op t x y u => exact op_bin he ho hR h
  | unOp op t x => exact op_un ho hR h
  | convert s d x => exact op_convert ho hR h
  | makeFunc f fs cs => exact op_makeFunc ho hR h
  | slice t x lo hi mx => exact op_slice ho hR h
  | fieldAddr t x f => exact op_fieldAddr ho hR h
  | field t x f => exact op_field ho hR h
  | indexAddr t x y => exact op_indexAddr ho hR h
  | index t x y => exact op_index ho hR h
  | extract x i => exact op_extract ho hR h
  | lookup t x y b => exact op_lookup he ho hR h
  | call cl => exact op_plainCall hp ho hR h
  | _ => rw [ho] at hp; cases hp

/-- All operations. -/
theorem op_ok {E : Env} {o : Oper} {K : St → Prop} (hH : HOk Γ E) (he : EqvOk E) (hR : R Γ s c E.N a w) (h : opX E o s K) : OpOk E Γ o s c a w K := by
  cases hp : plainOp o.op with
  | true => exact (plain_ok he hp hR h).ok hR
  | false =>
    cases ho : o.op with
    | move x => rw [ho] at hp; have e := plain_move hp; subst e; exact op_nil (.inl ho) hR h
    | assign x => rw [ho] at hp; have e := plain_assign hp; subst e; exact op_nil (.inr ho) hR h
    | alloc T => exact op_alloc ho hR h
    | box T x => exact op_box ho hR h
    | build t ps => exact op_build ho hR h
    | buildSlice t n ps => exact op_buildSlice ho hR h
    | store t x y => exact op_store ho hR h
    | makeSlice t x y => exact op_makeSlice ho hR h
    | makeMap t r => exact op_makeMap he ho hR h
    | mapUpdate t x y z => exact op_mapUpdate he (.inl ho) hR h
    | insert t x y z => exact op_mapUpdate he (.inr ho) hR h
    | range t x => exact op_range ho hR h
    | next x b => exact op_next ho hR h
    | entry x => exact op_entry ho hR h
    | call cl => exact op_call hH he ho hR h
    | _ => first
      | (rw [ho] at hp; cases hp; done)
      | (unfold opX at h; rw [ho] at h; exact h.elim)
end

end Go.Proofs.Ytodjomdnlcledaa.X
