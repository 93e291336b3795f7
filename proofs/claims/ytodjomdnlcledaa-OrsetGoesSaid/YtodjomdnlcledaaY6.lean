/- Operations on memory: stores, new objects. -/
import Derived.Test.YtodjomdnlcledaaY5
namespace Go.Proofs.Ytodjomdnlcledaa.X
open Go Go.RowKit
set_option linter.unusedSimpArgs false
set_option linter.unusedVariables false

section
variable {Γ : Base} {s : St} {c : Ctx} {N : Nat} {a : Act} {w : World}

theorem cell_one {S : BSet} : ∀ (t : Ty) (x : t.den) (j : Nat) (cv : Value), t.cell S w x j cv → cv.oneCell' = true
  | .int _, _, _, _, h => by rw [show _ = _ from h]; rfl
  | .bool, _, _, _, h => by rw [show _ = _ from h]; rfl
  | .str, _, _, _, h => by rw [show _ = _ from h]; rfl
  | .arr _ _, _, _, _, h => by rw [show _ = _ from h]; rfl
  | .slice _, _, _, _, h => by obtain ⟨_, _, h, _⟩ := h; rw [h]; rfl
  | .ref _, x, _, _, h => by
    cases x with
    | none => rw [show _ = _ from h]; rfl
    | some x => obtain ⟨_, _, h, _⟩ := h; rw [h]; rfl
  | .pair a b, x, j, cv, h => by
    simp only [Ty.cell] at h
    split at h
    · exact cell_one a _ _ _ h
    · exact cell_one b _ _ _ h
  | .unit, _, _, _, h => h.elim

theorem oneAV_cell {L : List AObj} (hw : RW Γ L c w) {av : AV} {v : Value} (h : RelAV L c w av v) (h1 : oneAV L av = true) (hd : ∀ t x, av ≠ .d t x) : v.oneCell' = true := by
  cases av <;> simp only [oneAV] at h1 <;> try (cases h1; done)
  case d t x => exact absurd rfl (hd _ _)
  case raw u => simp only [RelAV] at h; rw [h]; exact h1
  case own id ver e =>
    split at h1
    · rename_i cv T e' xs ho
      simp only [RelAV, RowAt, ho] at h
      rw [h.2 (Nat.eq_of_beq_eq_true h1)]
      have hr : RowRel c w (c.m id) T e' xs := hw.objs id _ ho
      rcases hr with ⟨hr, _⟩ | ⟨b, cap, cells, hr, _⟩ <;> rw [hr] <;> rfl
    · cases h1
  case ptr id off => simp only [RelAV] at h; obtain ⟨_, b, _, h⟩ := h; rw [h]; rfl
  case imp t x => simp only [RelAV] at h; obtain ⟨b, o, h, _⟩ := h; rw [h]; rfl
  case mp id =>
    split at h1
    · rename_i k v' es ho
      simp only [RelAV] at h
      obtain ⟨b, en, cl, hm, _⟩ : ObjRel L c w (c.m id) (.map k v' es) := hw.objs id _ ho
      rw [h.2, hm]; rfl
    · cases h1
  case fn f fs cs => simp only [RelAV] at h; obtain ⟨_, _, h, _⟩ := h; rw [h]; rfl

theorem RelCh_oneCell {L : List AObj} (hw : RW Γ L c w) : ∀ {as : List AV} {f : Nat → Option Value}, RelCh L c w as f → as.all (oneAV L) = true → ∀ j, j < (as.map AV.size).sum → ∃ cv, f j = some cv ∧ cv.oneCell' = true
  | [], f, h, h1, j, hj => by simp at hj
  | a :: as, f, h, h1, j, hj => by
    simp only [List.all_cons, Bool.and_eq_true] at h1
    obtain ⟨k1, k2⟩ := RelCh_one h
    by_cases hja : j < a.size
    · by_cases hd : ∃ t x, a = .d t x
      · obtain ⟨t, x, rfl⟩ := hd
        obtain ⟨cv, m1, m2⟩ := k1 j hja
        exact ⟨cv, m1, cell_one t x j cv m2⟩
      · have hs : a.size = 1 := by cases a <;> first | rfl | exact absurd ⟨_, _, rfl⟩ hd
        obtain ⟨⟨cv, m1, m2⟩, _⟩ := (RelCh_cons (fun t x e => hd ⟨t, x, e⟩)).1 h
        have : j = 0 := by omega
        subst this
        exact ⟨cv, m1, oneAV_cell hw m2 h1.1 (fun t x e => hd ⟨t, x, e⟩)⟩
    · obtain ⟨cv, m1, m2⟩ := RelCh_oneCell hw k2 h1.2 (j - a.size) (by simp at hj; omega)
      exact ⟨cv, by rw [show j = j - a.size + a.size by omega]; exact m1, m2⟩

theorem parts_rel {L : List AObj} (hw : RW Γ L c w) {av : AV} {v : Value} (h : RelAV L c w av v) (h1 : av.parts.all (oneAV L) = true) (hj : av ≠ .junk) (ht : ∀ vs, av ≠ .tup vs) :
    v.cells.size = (av.parts.map AV.size).sum ∧ RelCh L c w av.parts (fun j => v.cells[j]?) := by
  by_cases hd : ∃ t x, av = .d t x
  · obtain ⟨t, x, rfl⟩ := hd
    simp only [RelAV] at h
    obtain ⟨k1, k2⟩ := leaves_cells (L := L) (c := c) t x _ h.2.2 rfl
    exact ⟨by simp only [AV.parts]; rw [k2]; exact h.2.1, k1⟩
  · by_cases hg : ∃ cs, av = .agg cs
    · obtain ⟨cs, rfl⟩ := hg
      simp only [RelAV] at h
      obtain ⟨us, rfl, hs, hc⟩ := h
      exact ⟨hs, hc⟩
    · have hp : av.parts = [av] := by cases av <;> first | rfl | exact absurd ⟨_, _, rfl⟩ hd | exact absurd ⟨_, rfl⟩ hg
      rw [hp] at h1 ⊢
      simp only [List.all_cons, List.all_nil, Bool.and_true] at h1
      have h2 := oneAV_cell hw h h1 (fun t x e => hd ⟨t, x, e⟩)
      have hc : v.cells = #[v] := by cases v <;> first | rfl | cases h2
      have hs : av.size = 1 := by cases av <;> first | rfl | exact absurd ⟨_, _, rfl⟩ hd
      rw [hc]
      exact ⟨by simp [hs], (RelCh_cons (fun t x e => hd ⟨t, x, e⟩)).2 ⟨⟨v, rfl, h⟩, trivial⟩⟩

theorem fitsB_size {u : Ty} {av : AV} (h : fitsB u av = true) : (av.parts.map AV.size).sum = u.size := by
  cases av <;> simp only [fitsB] at h
  case d u' x =>
    have := of_decide_eq_true h
    subst this
    have : ∀ (t : Ty) (x : t.den), ((leaves t x).map AV.size).sum = t.size := by
      intro t
      induction t with
      | pair a b iha ihb => intro x; simp [leaves, iha, ihb, Ty.size]
      | unit => intro x; simp [leaves, Ty.size]
      | _ => intro x; simp [leaves, AV.size]
    exact this _ _
  case agg m => simp only [Bool.and_eq_true] at h; exact Nat.eq_of_beq_eq_true h.2
  all_goals (have := leaf_size (u := u) (by simpa using h); simp [AV.parts, AV.size, this])

theorem fitsB_plain {u : Ty} {av : AV} (h : fitsB u av = true) (h1 : av.parts.all (oneAV s.L) = true) : av ≠ .junk ∧ ∀ vs, av ≠ .tup vs := by
  cases av <;> simp [AV.parts, oneAV] at h1 ⊢

theorem getD_setA (l : List Int) (i : Nat) (y : Int) (j : Nat) : List.getD (setA l i y) j 0 = if j = i then y else List.getD l j 0 := by
  unfold setA
  by_cases h : i < l.length
  · rw [if_pos h]
    by_cases hj : j = i
    · subst hj; simp [List.getD, h]
    · rw [if_neg hj]; simp [List.getD, List.getElem?_set_ne (Ne.symm hj)]
  · rw [if_neg h]
    by_cases hj : j = i
    · subst hj
      rw [if_pos rfl]
      simp only [List.getD]
      rw [List.getElem?_append_right (by simp; omega)]
      have : j - (l ++ List.replicate (j - l.length) 0).length = 0 := by simp; omega
      rw [this]; rfl
    · rw [if_neg hj]
      simp only [List.getD]
      by_cases h1 : j < l.length
      · rw [List.append_assoc, List.getElem?_append_left h1]
      · rw [List.getElem?_eq_none (l := l) (by omega)]
        by_cases h2 : j < i
        · rw [List.getElem?_append_left (by simp; omega), List.getElem?_append_right (by omega)]
          rw [List.getElem?_replicate]
          split <;> rfl
        · rw [List.getElem?_eq_none (by simp; omega)]

/-- A store of so many cells. -/
theorem store_run {P : Program} {t : TypeId} {i : TypeInfo} (hi : P.info? t = some i) {b off : Nat} {cells : Array Value} {T : TypeId} (hh : w.heap[b]? = some (.cells cells T (0, 0))) {v : Value} (hs : v.cells.size = i.size)
    (hfit : off + v.cells.size ≤ cells.size) (h1 : ∀ u ∈ v.cells.toList, u.oneCell' = true) :
    (Instr.storeAt t (.pointer (some ⟨b, off, none⟩)) v).run P w = .ok () (w.setRow b (cells.toList.take off ++ v.cells.toList ++ cells.toList.drop (off + v.cells.size)).toArray) := by
  have hst := run_storeCells_at P b off T v.cells.toList 0 cells w hh (by simpa using hfit) h1
  simp only [Nat.add_zero, Array.length_toList] at hst
  simp [Instr.storeAt, Instr.sureAddr, storeVar, run_sizeOf' hi, hs, hst]

theorem take_get (l : List Value) (off j : Nat) (h : j < off) (r : List Value) (hl : off ≤ l.length) : (l.take off ++ r)[j]? = l[j]? := by
  rw [List.getElem?_append_left (by simp; omega), List.getElem?_take_of_lt h]

theorem newCells_lo (l v : List Value) (off j : Nat) (hl : off ≤ l.length) (h : j < off) : ((l.take off ++ v ++ l.drop (off + v.length)).toArray)[j]? = l[j]? := by
  rw [List.getElem?_toArray, List.append_assoc]; exact take_get l off j h _ hl
theorem newCells_mid (l v : List Value) (off j : Nat) (hl : off ≤ l.length) (h : j < v.length) : ((l.take off ++ v ++ l.drop (off + v.length)).toArray)[off + j]? = v[j]? := by
  rw [List.getElem?_toArray, List.append_assoc, List.getElem?_append_right (by simp; omega)]
  have : off + j - (l.take off).length = j := by simp; omega
  rw [this, List.getElem?_append_left h]
theorem newCells_hi (l v : List Value) (off j : Nat) (hl : off + v.length ≤ l.length) (h : off + v.length ≤ j) : ((l.take off ++ v ++ l.drop (off + v.length)).toArray)[j]? = l[j]? := by
  rw [List.getElem?_toArray, List.getElem?_append_right (by simp; omega)]
  rw [List.getElem?_drop]
  congr 1
  simp; omega
theorem newCells_size (l v : List Value) (off : Nat) (hl : off + v.length ≤ l.length) : ((l.take off ++ v ++ l.drop (off + v.length)).toArray).size = l.length := by
  simp; omega

theorem Alike.setRow (w : World) (b : Nat) (cs : Array Value) : Alike w (w.setRow b cs) := ⟨rfl, rfl, rfl, by simp⟩

theorem iter_ne {L : List AObj} (hw : RW Γ L c w) {id : Nat} {o : AObj} (ho : L[id]? = some o) (hm : ∀ k v es, o ≠ .map k v es) : ∀ i mid k v td cur, i ≠ id → L[i]? = some (.iter mid k v td cur) → mid ≠ id := by
  intro i mid k v td cur _ hi e
  obtain ⟨es, _, _, _, _, _, h0, _⟩ : ObjRel L c w (c.m i) (.iter mid k v td cur) := hw.objs i _ hi
  rw [e, ho] at h0
  cases h0
  exact hm _ _ _ rfl

/-- Parts of an object's cells are written. -/
theorem cells_write {E : Env} (hR : R Γ s c E.N a w) {id : Nat} {p m q : List AV} (hL : s.L[id]? = some (.cells (p ++ (m ++ q)))) (hlock : id ∉ s.lock) {b : Nat} {cells : Array Value} {T : TypeId}
    (hm : c.m id = .pointer (some ⟨b, 0, none⟩)) (hh : w.heap[b]? = some (.cells cells T (0, 0))) (hsz : cells.size = ((p ++ (m ++ q)).map AV.size).sum)
    (hch : RelCh s.L c w (p ++ (m ++ q)) (fun j => cells[j]?)) {n : List AV} {vs : List Value} (hn : RelCh s.L c w n (fun j => vs[j]?)) (hns : (n.map AV.size).sum = vs.length) (hms : (m.map AV.size).sum = vs.length) :
    RW Γ (s.setL id (.cells (p ++ (n ++ q)))).L (c.set id (c.m id)) (w.setRow b (cells.toList.take (p.map AV.size).sum ++ vs ++ cells.toList.drop ((p.map AV.size).sum + vs.length)).toArray) ∧
    Adv s c w (s.setL id (.cells (p ++ (n ++ q)))) (c.set id (c.m id)) (w.setRow b (cells.toList.take (p.map AV.size).sum ++ vs ++ cells.toList.drop ((p.map AV.size).sum + vs.length)).toArray) := by
  obtain ⟨h1, h2⟩ := RelCh_split hch
  obtain ⟨h3, h4⟩ := RelCh_split h2
  have hsum : (p.map AV.size).sum + (vs.length + (q.map AV.size).sum) = cells.toList.length := by
    have e : cells.toList.length = cells.size := Array.length_toList
    rw [e, hsz]; simp [hms]
  have hh' : ∀ b', b' < w.heap.size → ¬ Owns (.cells (p ++ (m ++ q))) (c.m id) b' → (w.setRow b (cells.toList.take (p.map AV.size).sum ++ vs ++ cells.toList.drop ((p.map AV.size).sum + vs.length)).toArray).heap[b']? = w.heap[b']? :=
    fun b' _ hno => setRow_other w b b' _ (fun e => hno (by rw [e]; exact hm))
  obtain ⟨k1, k2⟩ := hR.rw_.chg hL (o' := .cells (p ++ (n ++ q))) (v' := c.m id) (Alike.setRow w b _) hh'
    (fun b' hb' => ⟨.inl hb', by have := (hR.rw_.owns id _ b' hL hb').2.1; simpa using this⟩) (by simp [Evol]) (iter_ne hR.rw_ hL (by intro _ _ _ e; cases e))
    (fun hs => ⟨b, T, _, hm, setRow_heap w b cells _ T (0, 0) hh, by
        rw [newCells_size _ _ _ (by omega)]
        have e : cells.toList.length = cells.size := Array.length_toList
        rw [e, hsz]; simp [hms, hns], by
      refine RelCh_append (RelCh_congr (RelCh_step hs _ _ h1) fun j hj => ?_) (RelCh_append (RelCh_congr (RelCh_step hs _ _ hn) fun j hj => ?_) (RelCh_congr (RelCh_step hs _ _ h4) fun j hj => ?_))
      · rw [newCells_lo _ _ _ _ (by omega) hj]; simp
      · rw [Nat.add_comm j, newCells_mid _ _ _ _ (by omega) (by omega)]
      · rw [newCells_hi _ _ _ _ (by omega) (by omega)]
        simp only [Array.getElem?_toList]
        congr 1; omega⟩)
  exact ⟨k1, Adv.chg k2 hR.rw_ hL hlock hh'⟩

theorem op_box {E : Env} {o : Oper} {K : St → Prop} {T : TypeId} {x : Operand} (ho : o.op = .box T x) (hR : R Γ s c E.N a w) (h : opX E o s K) : OpOk E Γ o s c a w K := by
  have hx := evalO_rel hR x
  unfold opX at h; rw [ho] at h; simp only at h
  have hr : (execOp a.eval o).run E.P w = .ok (.value (.pointer (some ⟨w.heap.size, 0, none⟩))) (w.alloc (.cells (a.eval x).cells T)) := by
    unfold execOp; rw [ho]; simp [Instr.box, newVar, newRow]
  have key : ∀ av, evalO s x = av → av ≠ .junk → (∀ vs, av ≠ .tup vs) → (bif av.parts.all (oneAV s.L) then putX E o.dst K (.ptr s.L.length 0) (s.addL (.cells av.parts)) else False) → OpOk E Γ o s c a w K := by
    intro av e h1 h2 h
    rw [e] at hx
    cases hb : av.parts.all (oneAV s.L) with
    | false => rw [hb] at h; exact h.elim
    | true =>
      rw [hb] at h
      simp only [cond_true] at h
      obtain ⟨k1, k2⟩ := parts_rel hR.rw_ hx hb h1 h2
      have hh : ∀ b, b < w.heap.size → (w.alloc (.cells (a.eval x).cells T)).heap[b]? = w.heap[b]? := fun b hb => heap_alloc_old w _ b hb
      obtain ⟨m1, m2⟩ := hR.rw_.add (o' := .cells av.parts) (v' := .pointer (some ⟨w.heap.size, 0, none⟩)) (w' := w.alloc (.cells (a.eval x).cells T)) ⟨rfl, rfl, rfl, by simp⟩ hh
        (fun b hb => by simp only [Owns, Value.pointer.injEq, Option.some.injEq, Addr.mk.injEq] at hb; simp; omega)
        (fun hs => ⟨w.heap.size, T, (a.eval x).cells, rfl, heap_alloc_new w _, k1, RelCh_step hs _ _ k2⟩)
      refine OpOk.step hR h (Adv.add m2 hR.rw_ hh) rfl m1 hr ?_ (fun _ => hh)
      simp only [RelAV, CellsAt, St.addL]
      simp [Ctx.set]
  split at h
  · exact h.elim
  · exact h.elim
  · rename_i h1 h2
    exact key _ rfl (fun e => h1 e) (fun vs e => h2 vs e) h

theorem op_store {E : Env} {o : Oper} {K : St → Prop} {t : TypeId} {x y : Operand} (ho : o.op = .store t x y) (hR : R Γ s c E.N a w) (h : opX E o s K) : OpOk E Γ o s c a w K := by
  have hx := evalO_rel hR x
  have hy := evalO_rel hR y
  unfold opX at h; rw [ho] at h; simp only at h
  have fin : ∀ {s1 : St} {c1 : Ctx} {w1 : World}, putX E o.dst K .junk s1 → Adv s c w s1 c1 w1 → s1.sl = s.sl → RW Γ s1.L c1 w1 → (Instr.storeAt t (a.eval x) (a.eval y)).run E.P w = .ok () w1 → OpOk E Γ o s c a w K := by
    intro s1 c1 w1 hK hadv hs hw hr W next Q hW hn
    unfold Oper.wp
    have : (execOp a.eval o).run E.P w = .ok .skip w1 := by unfold execOp; rw [ho]; simp [hr]
    rw [this]
    exact put_done (v := undef) hR hK hadv hs hw (by simp only [RelAV]) hW (by rw [ho]; intro h; cases h) hn
  unfold storeX at h
  split at h
  · rename_i id off e
    rw [e] at hx
    simp only [RelAV] at hx
    obtain ⟨_, b, hm, hv⟩ := hx
    cases hlk : lockedB s id with
    | true => rw [hlk] at h; exact h.elim
    | false =>
      rw [hlk] at h
      simp only [cond_false] at h
      have hlock := lockedB_false hlk
      split at h
      · rename_i cs hL
        obtain ⟨b', T, cells, hm', hh, hsz, hch⟩ := cells_of hR.rw_ hL
        have : b' = b := by rw [hm] at hm'; simpa using hm'.symm
        subst this
        split at h
        · rename_i u hu
          cases ht : (tyB E.P t u && fitsB u (evalO s y) && (evalO s y).parts.all (oneAV s.L)) with
          | false => rw [ht] at h; exact h.elim
          | true =>
            rw [ht] at h
            simp only [cond_true] at h
            simp only [Bool.and_eq_true] at ht
            split at h
            · rename_i p m q hmid
              obtain ⟨h1, h2, h3⟩ := midCh_some hmid
              rw [h1] at hch hsz hL
              obtain ⟨p1, p2⟩ := fitsB_plain ht.1.2 ht.2
              obtain ⟨k1, k2⟩ := parts_rel hR.rw_ hy ht.2 p1 p2
              have k3 := fitsB_size ht.1.2
              obtain ⟨i, d, hi, hs, hd, hg⟩ := tyB_some ht.1.1
              have hvl : (a.eval y).cells.toList.length = u.size := by rw [Array.length_toList, k1, k3]
              obtain ⟨m1, m2⟩ := cells_write hR hL hlock hm hh hsz hch (n := (evalO s y).parts) (vs := (a.eval y).cells.toList) (by simpa using k2) (by rw [hvl, k3]) (by rw [hvl, h3])
              rw [h2] at m1 m2
              refine fin h m2 rfl m1 ?_
              rw [hv]
              have hfit : off + (a.eval y).cells.size ≤ cells.size := by rw [hsz, ← h2, ← Array.length_toList, hvl, ← h3]; simp
              have hone : ∀ u ∈ (a.eval y).cells.toList, u.oneCell' = true := by
                intro u hu
                obtain ⟨j, hj⟩ := List.mem_iff_getElem?.1 hu
                have hjl : j < (a.eval y).cells.toList.length := (List.getElem?_eq_some_iff.1 hj).1
                obtain ⟨cv, n1, n2⟩ := RelCh_oneCell hR.rw_ k2 ht.2 j (by rw [← k1, ← Array.length_toList]; exact hjl)
                rw [Array.getElem?_toList] at hj
                rw [hj] at n1; cases n1; exact n2
              have := store_run (P := E.P) hi hh (v := a.eval y) (by rw [hs, ← hvl, Array.length_toList]) hfit hone
              rw [this, Array.length_toList]
            · exact h.elim
        · cases ht : (oneB E.P t && fits1 (evalO s y) && oneAV s.L (evalO s y)) with
          | false => rw [ht] at h; exact h.elim
          | true =>
            rw [ht] at h
            simp only [cond_true] at h
            simp only [Bool.and_eq_true] at ht
            split at h
            · rename_i p m q hmid
              obtain ⟨h1, h2, h3⟩ := midCh_some hmid
              rw [h1] at hch hsz hL
              have hnd : ∀ t x, evalO s y ≠ .d t x := fun t x e => by rw [e] at ht; simp [fits1] at ht
              have hng : ∀ cs, evalO s y ≠ .agg cs := fun cs e => by rw [e] at ht; simp [fits1] at ht
              have hone := oneAV_cell hR.rw_ hy ht.2 hnd
              have hc : (a.eval y).cells = #[a.eval y] := by
                generalize a.eval y = v at hone
                cases v <;> first | rfl | cases hone
              have hsz1 : (evalO s y).size = 1 := by
                generalize evalO s y = av at hnd
                cases av <;> first | rfl | exact absurd rfl (hnd _ _)
              obtain ⟨i, d, hi, hs, hd, hg⟩ := oneB_some ht.1.1
              obtain ⟨m1, m2⟩ := cells_write hR hL hlock hm hh hsz hch (n := [evalO s y]) (vs := [a.eval y]) ((RelCh_cons hnd).2 ⟨⟨_, rfl, hy⟩, trivial⟩) (by simp [hsz1]) (by simp [h3])
              rw [h2] at m1 m2
              refine fin h m2 rfl m1 ?_
              rw [hv]
              have hfit : off + (a.eval y).cells.size ≤ cells.size := by rw [hsz, ← h2, hc]; simp [h3, Value.cells]
              have := store_run (P := E.P) hi hh (v := a.eval y) (by rw [hs, hc]; rfl) hfit (by rw [hc]; intro u hu; simp at hu; rw [hu]; exact hone)
              rw [this, hc]; simp
            · exact h.elim
      · exact h.elim
  · rename_i id off n k i e
    rw [e] at hx
    simp only [RelAV] at hx
    obtain ⟨_, h0, hn, b, hm, hv⟩ := hx
    cases hlk : lockedB s id with
    | true => rw [hlk] at h; exact h.elim
    | false =>
      rw [hlk] at h
      simp only [cond_false] at h
      have hlock := lockedB_false hlk
      cases ht : oneB E.P t with
      | false => rw [ht] at h; exact h.elim
      | true =>
        rw [ht] at h
        simp only [cond_true] at h
        split at h
        · rename_i cs hL
          obtain ⟨b', T, cells, hm', hh, hsz, hch⟩ := cells_of hR.rw_ hL
          have : b' = b := by rw [hm] at hm'; simpa using hm'.symm
          subst this
          split at h
          · rename_i p n' k' l q hmid
            obtain ⟨h1, h2, h3⟩ := midCh_some hmid
            rw [h1] at hch hsz hL
            cases hb : (Nat.beq n n' && decide (k = k')) with
            | false => rw [hb] at h; exact h.elim
            | true =>
              rw [hb] at h
              simp only [Bool.and_eq_true] at hb
              have e1 : n = n' := Nat.eq_of_beq_eq_true hb.1
              have e2 : k = k' := of_decide_eq_true hb.2
              subst e1; subst e2
              simp only [cond_true] at h
              split at h
              · rename_i k'' z ez
                rw [ez] at hy
                simp only [RelAV] at hy
                have hyv := val_int hy
                cases hk : decide (k = k'') with
                | false => rw [hk] at h; exact h.elim
                | true =>
                  rw [hk] at h
                  have := of_decide_eq_true hk
                  subst this
                  simp only [cond_true] at h
                  obtain ⟨_, g2⟩ := RelCh_split hch
                  obtain ⟨g3, _⟩ := RelCh_split g2
                  have hcells : CellsOf c.S w (.arr n k) l (fun j => cells[j + off]?) := by
                    have := (RelCh_one g3).1
                    simp only [h2] at this; exact this
                  have hlen : off + n ≤ cells.size := by rw [hsz, ← h2]; simp [AV.size, Ty.size]
                  let vs : List Value := (List.range n).map fun j => Value.int k (List.getD (setA l i.toNat z) j 0)
                  have hvs : vs.length = n := by simp [vs]
                  obtain ⟨m1, m2⟩ := cells_write hR hL hlock hm hh hsz hch (n := [.d (.arr n k) (setA l i.toNat z)]) (vs := vs)
                    ⟨fun j hj => ⟨.int k (List.getD (setA l i.toNat z) j 0), by simp only [Ty.size] at hj; simp [vs, hj], rfl⟩, trivial⟩ (by simp [AV.size, Ty.size, hvs]) (by simp [AV.size, Ty.size, hvs])
                  rw [h2] at m1 m2
                  refine fin h m2 rfl m1 ?_
                  obtain ⟨i', d, hi, hs, hd, hg⟩ := oneB_some ht
                  rw [hv, hyv]
                  have := store_run (P := E.P) hi hh (v := .int k z) (off := off + i.toNat) (by rw [hs]; rfl) (by simp [Value.cells]; omega) (by intro u hu; simp [Value.cells] at hu; rw [hu]; rfl)
                  rw [this]
                  congr 2
                  apply Array.ext'
                  simp only [List.toList_toArray, Value.cells]
                  apply List.ext_getElem?
                  intro j
                  have old : ∀ j, j < n → cells.toList[off + j]? = some (.int k (List.getD l j 0)) := fun j hj => by
                    obtain ⟨cv, c1, c2⟩ := hcells j (by simpa [Ty.size] using hj)
                    simp only [Ty.cell] at c2
                    subst c2
                    rw [Array.getElem?_toList, Nat.add_comm]; exact c1
                  have gd : ∀ j, List.getD (setA l i.toNat z) j 0 = if j = i.toNat then z else List.getD l j 0 := getD_setA l i.toNat z
                  have L1 := newCells_lo cells.toList [Value.int k z] (off + i.toNat)
                  have L2 := newCells_mid cells.toList [Value.int k z] (off + i.toNat)
                  have L3 := newCells_hi cells.toList [Value.int k z] (off + i.toNat)
                  have M1 := newCells_lo cells.toList vs off
                  have M2 := newCells_mid cells.toList vs off
                  have M3 := newCells_hi cells.toList vs off
                  simp only [List.getElem?_toArray, List.length_singleton, List.size_toArray, Array.length_toList] at L1 L2 L3 M1 M2 M3 ⊢
                  rw [hvs] at M2 M3
                  by_cases c1 : j < off
                  · rw [L1 j (by omega) (by omega), hvs] at *
                    rw [M1 j (by omega) c1]
                  · by_cases c2 : j < off + n
                    · obtain ⟨r, rfl⟩ : ∃ r, j = off + r := ⟨j - off, by omega⟩
                      rw [hvs]
                      rw [M2 r (by omega) (by omega)]
                      have hr : vs[r]? = some (.int k (if r = i.toNat then z else List.getD l r 0)) := by
                        simp only [vs]; rw [List.getElem?_map, List.getElem?_range (by omega)]; simp only [Option.map_some, gd]
                      rw [hr]
                      by_cases c3 : r = i.toNat
                      · subst c3
                        have := L2 0 (by omega) (by omega)
                        simp only [Nat.add_zero] at this
                        rw [this]; simp
                      · rw [if_neg c3]
                        by_cases c4 : r < i.toNat
                        · rw [L1 (off + r) (by omega) (by omega)]; exact old r (by omega)
                        · rw [L3 (off + r) (by omega) (by omega)]; exact old r (by omega)
                    · rw [hvs, M3 j (by omega) (by omega), L3 j (by omega) (by omega)]
              · exact h.elim
          · exact h.elim
        · exact h.elim
  · rename_i id ver e i off he
    rw [he] at hx
    cases hlk : lockedB s id with
    | true => rw [hlk] at h; exact h.elim
    | false =>
      rw [hlk] at h
      simp only [cond_false] at h
      have hlock := lockedB_false hlk
      split at h
      · rename_i u hu
        cases ht : tyB E.P t u with
        | false => rw [ht] at h; exact h.elim
        | true =>
          rw [ht] at h
          simp only [cond_true] at h
          split at h
          · rename_i cv T e' xs hL
            cases hb : (Nat.beq ver cv && decide (e = e')) with
            | false => rw [hb] at h; exact h.elim
            | true =>
              rw [hb] at h
              simp only [Bool.and_eq_true] at hb
              have e1 := Nat.eq_of_beq_eq_true hb.1
              have e2 := of_decide_eq_true hb.2
              subst e1; subst e2
              simp only [cond_true] at h
              split at h
              · rename_i z hz
                split at h
                · rename_i z' hz'
                  simp only [RelAV, RowAt, hL] at hx
                  obtain ⟨b, n, cap, hm, h0, hn, hv⟩ := hx.2 trivial
                  have hyv := toDataNil_val hR.rw_ hy hz
                  have hr : RowRel c w (c.m id) T e xs := hR.rw_.objs id _ hL
                  rcases hr with ⟨hr, _⟩ | ⟨b', cap', cells, hr, hcap, hle, hh, hsz, hcs⟩
                  · rw [hm] at hr; cases hr
                  · rw [hm] at hr
                    simp only [Value.slice.injEq, Option.some.injEq, Addr.mk.injEq] at hr
                    obtain ⟨⟨rfl, _, _⟩, rfl, rfl⟩ := hr
                    have hi : i.toNat < xs.length := by omega
                    have hget : xs[i.toNat]? = some (rd xs i) := by simp [rd, List.getD, hi]
                    have hmul : ∀ q, q < cap → q * e.size + e.size ≤ cells.size := fun q hq => by
                      rw [hsz, ← Nat.succ_mul]; exact Nat.mul_le_mul_right _ hq
                    have hce : CellsOf c.S w e (rd xs i) (fun j => cells[i.toNat * e.size + j]?) := hcs i.toNat _ hget
                    obtain ⟨i', d, hinf, hs, hd, hg⟩ := tyB_some ht
                    have hvs : (a.eval y).cells.size = u.size := hyv.2.1
                    -- where it fits
                    have hupd := updD_cells e (rd xs i) off u z z' (fun j => cells[i.toNat * e.size + j]?)
                      (fun j => if j < off then cells[i.toNat * e.size + j]? else if j < off + u.size then (a.eval y).cells[j - off]? else cells[i.toNat * e.size + j]?) hce hz'
                      (fun j hj => by
                        obtain ⟨cv, c1, c2⟩ := hyv.2.2 j hj
                        exact ⟨cv, by simp only; rw [if_neg (by omega), if_pos (by omega)]; rw [Nat.add_sub_cancel_left]; exact c1, c2⟩)
                      (fun j hj => by
                        rcases hj with hj | hj
                        · rw [if_pos hj]
                        · rw [if_neg (by omega), if_neg (by omega)])
                    have hroom := hupd.2
                    have hbig := hmul i.toNat (by omega)
                    have hfit : i.toNat * e.size + off + (a.eval y).cells.size ≤ cells.size := by omega
                    have hone : ∀ u ∈ (a.eval y).cells.toList, u.oneCell' = true := by
                      intro v' hv'
                      obtain ⟨j, hj⟩ := List.mem_iff_getElem?.1 hv'
                      have hjl : j < (a.eval y).cells.toList.length := (List.getElem?_eq_some_iff.1 hj).1
                      rw [Array.length_toList, hvs] at hjl
                      obtain ⟨cv, n1, n2⟩ := hyv.2.2 j hjl
                      rw [Array.getElem?_toList] at hj
                      rw [hj] at n1; cases n1; exact cell_one _ _ _ _ n2
                    have hrun := store_run (P := E.P) hinf hh (v := a.eval y) (off := i.toNat * e.size + off) (by rw [hs, hvs]) hfit hone
                    have hvl : (a.eval y).cells.toList.length = u.size := by rw [Array.length_toList, hvs]
                    rw [← Array.length_toList (xs := (a.eval y).cells)] at hrun
                    have L1 := newCells_lo cells.toList (a.eval y).cells.toList (i.toNat * e.size + off)
                    have L2 := newCells_mid cells.toList (a.eval y).cells.toList (i.toNat * e.size + off)
                    have L3 := newCells_hi cells.toList (a.eval y).cells.toList (i.toNat * e.size + off)
                    have L4 := newCells_size cells.toList (a.eval y).cells.toList (i.toNat * e.size + off)
                    simp only [Array.length_toList, hvs, Array.getElem?_toList] at L1 L2 L3 L4
                    simp only [Array.length_toList, hvs] at hrun
                    generalize hnew : (cells.toList.take (i.toNat * e.size + off) ++ (a.eval y).cells.toList ++ cells.toList.drop (i.toNat * e.size + off + u.size)).toArray = new at hrun L1 L2 L3 L4
                    have hh' : ∀ b', b' < w.heap.size → ¬ Owns (.row ver T e xs) (c.m id) b' → (w.setRow b new).heap[b']? = w.heap[b']? :=
                      fun b' _ hno => setRow_other w b b' _ (fun e => hno (by rw [e]; exact ⟨_, _, hm⟩))
                    have hobj : ∀ (L' : List AObj) (c' : Ctx), Step s.L c w L' c' (w.setRow b new) → c'.S = c.S → ObjRel L' c' (w.setRow b new) (c.m id) (.row ver T e (xs.set i.toNat z')) := by
                      intro L' c' hstep hS
                      refine .inr ⟨b, cap, new, by rw [hm, List.length_set], hcap, by simpa using hle, setRow_heap w b cells _ T (0, 0) hh, by rw [L4 (by omega), hsz], fun r x hx' j hj => ?_⟩
                      rw [hS]
                      by_cases hri : r = i.toNat
                      · subst hri
                        rw [List.getElem?_set_self hi] at hx'
                        cases hx'
                        obtain ⟨cv, c1, c2⟩ := hupd.1 j hj
                        refine ⟨cv, ?_, Ty.cell_mono (S := c.S) (fun _ h => h) (fun b' hb' => hstep.heap b' hb') e _ j cv c2⟩
                        simp only at c1
                        by_cases d1 : j < off
                        · rw [if_pos d1] at c1; rw [L1 _ (by omega) (by omega)]; exact c1
                        · rw [if_neg d1] at c1
                          by_cases d2 : j < off + u.size
                          · rw [if_pos d2] at c1
                            rw [show i.toNat * e.size + j = i.toNat * e.size + off + (j - off) by omega, L2 _ (by omega) (by omega)]; exact c1
                          · rw [if_neg d2] at c1; rw [L3 _ (by omega) (by omega)]; exact c1
                      · rw [List.getElem?_set_ne (Ne.symm hri)] at hx'
                        obtain ⟨cv, c1, c2⟩ := hcs r x hx' j hj
                        refine ⟨cv, ?_, Ty.cell_mono (S := c.S) (fun _ h => h) (fun b' hb' => hstep.heap b' hb') e _ j cv c2⟩
                        rcases Nat.lt_or_gt_of_ne hri with hlt | hgt
                        · have := Nat.mul_le_mul_right e.size (show r + 1 ≤ i.toNat by omega)
                          rw [Nat.succ_mul] at this
                          rw [L1 _ (by omega) (by omega)]; exact c1
                        · have := Nat.mul_le_mul_right e.size (show i.toNat + 1 ≤ r by omega)
                          rw [Nat.succ_mul] at this
                          rw [L3 _ (by omega) (by omega)]; exact c1
                    obtain ⟨k1, k2⟩ := hR.rw_.chg hL (o' := .row ver T e (xs.set i.toNat z')) (v' := c.m id) (Alike.setRow w b _) hh'
                      (fun b' hb' => ⟨.inl (by obtain ⟨n', cap', e1⟩ := hb'; exact ⟨n', cap', e1⟩), by obtain ⟨n', cap', e1⟩ := hb'; have := (hR.rw_.owns id _ b' hL ⟨n', cap', e1⟩).2.1; simpa using this⟩) (by simp [Evol]) (iter_ne hR.rw_ hL (by intro _ _ _ e; cases e))
                      (fun hstep => hobj _ _ hstep rfl)
                    exact fin h (Adv.chg k2 hR.rw_ hL hlock hh') rfl k1 (by rw [hv]; exact hrun)
                · exact h.elim
              · exact h.elim
          · exact h.elim
      · exact h.elim
  · exact h.elim
end

end Go.Proofs.Ytodjomdnlcledaa.X
