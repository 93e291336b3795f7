/- Operations: rows. -/
import Derived.Test.YtodjomdnlcledaaY8
namespace Go.Proofs.Ytodjomdnlcledaa.X
open Go Go.RowKit
set_option linter.unusedSimpArgs false
set_option linter.unusedVariables false

section
variable {Γ : Base} {s : St} {c : Ctx} {N : Nat} {a : Act} {w : World}

/-- Rows are let go. -/
theorem goneAll_ok : ∀ (ids : List Nat) (L : List AObj) (c : Ctx), RW Γ L c w → (∀ id ∈ ids, (∃ cv T e xs, L[id]? = some (.row cv T e xs)) ∨ L[id]? = some .gone) →
    ∃ S', RW Γ (goneAll L ids) ⟨c.m, S'⟩ w ∧ Step L c w (goneAll L ids) ⟨c.m, S'⟩ w ∧ (∀ b, c.S b → S' b) ∧
      (∀ id ∈ ids, ∀ o, L[id]? = some o → ∀ b, Owns o (c.m id) b → S' b) ∧ (∀ i, i ∉ ids → (goneAll L ids)[i]? = L[i]?) ∧ (goneAll L ids).length = L.length
  | [], L, c, hw, _ => ⟨c.S, hw, Step.refl _ _ _, fun _ h => h, fun _ h => by simp at h, fun _ _ => rfl, rfl⟩
  | id :: ids, L, c, hw, h => by
    obtain ⟨o, ho⟩ : ∃ o, L[id]? = some o := by rcases h id (by simp) with ⟨cv, T, e, xs, h⟩ | h <;> exact ⟨_, h⟩
    have hit : ∀ i mid k v td cur, i ≠ id → L[i]? = some (.iter mid k v td cur) → mid ≠ id := iter_ne hw ho (by
      intro k v es e; subst e
      rcases h id (by simp) with ⟨cv, T, e, xs, h⟩ | h <;> rw [ho] at h <;> cases h)
    obtain ⟨h1, h2⟩ := hw.freeze ho hit
    have hlt : id < L.length := (List.getElem?_eq_some_iff.1 ho).1
    obtain ⟨S', k1, k2, k3, k4, k5, k6⟩ := goneAll_ok ids (L.set id .gone) _ h1 (fun i hi => by
      by_cases e : i = id
      · subst e; exact .inr (by simp [hlt])
      · rw [List.getElem?_set_ne (Ne.symm e)]; exact h i (by simp [hi]))
    refine ⟨S', k1, h2.trans k2, fun b hb => k3 b (.inl hb), fun i hi p hp b hb => ?_, fun i hi => ?_, by simp only [goneAll]; rw [k6]; simp⟩
    · by_cases e : i = id
      · subst e; rw [ho] at hp; cases hp
        exact k3 b (.inr hb)
      · rcases List.mem_cons.1 hi with hi | hi
        · exact absurd hi e
        · exact k4 i hi p (by rw [List.getElem?_set_ne (Ne.symm e)]; exact hp) b hb
    · simp only [List.mem_cons, not_or] at hi
      simp only [goneAll]
      rw [k5 i hi.2, List.getElem?_set_ne (Ne.symm hi.1)]

theorem freeB_some {ids : List Nat} (h : freeB s ids = true) : ∀ id ∈ ids, id ∉ s.lock ∧ ∃ cv T e xs, s.L[id]? = some (.row cv T e xs) := by
  intro id hid
  have := List.all_eq_true.1 h id hid
  simp only [Bool.and_eq_true, Bool.not_eq_true'] at this
  refine ⟨lockedB_false this.1, ?_⟩
  have h2 := this.2
  split at h2
  · rename_i cv T e xs ho; exact ⟨cv, T, e, xs, ho⟩
  · cases h2

/-- Rows are let go, in a state. -/
theorem gone_state (hw : RW Γ s.L c w) {ids : List Nat} (h : freeB s ids = true) :
    ∃ c', RW Γ (goneAll s.L ids) c' w ∧ Adv s c w ⟨s.sl, goneAll s.L ids, s.lock⟩ c' w ∧ c'.m = c.m ∧ (∀ id ∈ ids, ∀ o, s.L[id]? = some o → ∀ b, Owns o (c.m id) b → c'.S b) := by
  obtain ⟨S', k1, k2, k3, k4, k5, k6⟩ := goneAll_ok ids s.L c hw (fun id hid => .inl (freeB_some h id hid).2)
  exact ⟨⟨c.m, S'⟩, k1, ⟨k2, rfl, fun id hid o ho => ⟨by rw [k5 id (fun hm => (freeB_some h id hm).1 hid)]; exact ho, rfl, fun _ _ => rfl⟩⟩, rfl, k4⟩

theorem leaves_noOwn : ∀ (t : Ty) (x : t.den), ∀ av ∈ leaves t x, AV.rowId av = none := by
  intro t
  induction t with
  | pair a b iha ihb => intro x av hm; simp only [leaves, List.mem_append] at hm; rcases hm with hm | hm; exact iha _ _ hm; exact ihb _ _ hm
  | unit => intro x av hm; simp [leaves] at hm
  | _ => intro x av hm; simp [leaves] at hm; rw [hm]; rfl

theorem lent_parts {av a : AV} {id : Nat} (h : a ∈ av.parts) (he : a.rowId = some id) : id ∈ av.lent := by
  cases av <;> simp only [AV.parts, AV.lent] at h ⊢
  case d t x => rw [leaves_noOwn _ _ _ h] at he; cases he
  case agg cs => rw [List.mem_filterMap]; exact ⟨_, h, he⟩
  all_goals (rw [List.mem_singleton] at h; subst h; simp only [AV.rowId] at he ⊢; first | (cases he; done) | (cases he; simp))

theorem lent_self {av a : AV} {id : Nat} (h : a ∈ [av]) (he : a.rowId = some id) : id ∈ av.lent := by
  simp only [List.mem_singleton] at h
  subst h
  cases a <;> simp only [AV.rowId] at he <;> first | (cases he; done) | (cases he; simp [AV.lent, AV.rowId])

theorem takeD_ok {P : Program} (hw : RW Γ s.L c w) {t : Ty} {av : AV} {v : Value} {x : t.den} {s' : St} (hv : RelAV s.L c w av v) (h : takeD s t av = some (x, s')) :
    ∃ c', RW Γ s'.L c' w ∧ Adv s c w s' c' w ∧ s'.sl = s.sl ∧ t.val c'.S w x v := by
  unfold takeD at h
  split at h
  · rename_i y hy
    cases hb : freeB s av.lent with
    | false => rw [hb] at h; cases h
    | true =>
      rw [hb] at h
      simp only [cond_true, Option.some.injEq, Prod.mk.injEq] at h
      obtain ⟨rfl, rfl⟩ := h
      obtain ⟨c', k1, k2, k3, k4⟩ := gone_state hw hb
      refine ⟨c', k1, k2, rfl, ?_⟩
      refine toData_val hw (S := c'.S) (deep := false) ⟨k2.step.more, fun id av hm he o ho b hb => k4 id (lent_parts hm he) o ho b hb, fun h => by cases h⟩ ⟨k2.step.more, fun id av hm he o ho b hb => k4 id (lent_self hm he) o ho b hb, fun h => by cases h⟩ hv hy
  · cases h

theorem sliceDOf_some {P : Program} {ty : TypeId → Option Ty} {t T : TypeId} {e : Ty} (h : sliceDOf P ty t = some (T, e)) :
    P.underlying t = some (.slice T) ∧ (∃ i, P.info? T = some i ∧ i.size = e.size) ∧ 0 < e.size := by
  unfold sliceDOf elemOfSlice at h
  split at h
  · rename_i T' hT
    split at hT
    · rename_i e' hu
      cases hT
      split at h
      · rename_i e2 hty
        cases hb : (szB P T' e2.size && Nat.blt 0 e2.size) with
        | false => rw [hb] at h; cases h
        | true =>
          rw [hb] at h
          simp only [cond_true, Option.some.injEq, Prod.mk.injEq] at h
          obtain ⟨rfl, rfl⟩ := h
          simp only [Bool.and_eq_true] at hb
          obtain ⟨i, hi, hs⟩ := szB_some hb.1
          exact ⟨hu, ⟨i, hi, hs⟩, by simpa [Nat.blt_eq] using hb.2⟩
      · cases h
    · cases hT
  · cases h

/-- The cells of elements that lie one behind the other. -/
def RowsOf (S : BSet) (w : World) (e : Ty) (xs : List e.den) (f : Nat → Option Value) : Prop :=
  ∀ i x, xs[i]? = some x → ∀ j, j < e.size → ∃ cv, f (i * e.size + j) = some cv ∧ e.cell S w x j cv

/-- The elements of a slice that is read: their cells, in order. -/
theorem RowsOf.list {S : BSet} {e : Ty} {xs : List e.den} {f : Nat → Option Value} (h : RowsOf S w e xs f) :
    ∃ vs : List Value, vs.length = xs.length * e.size ∧ (∀ j v, vs[j]? = some v → f j = some v) ∧ RowsOf S w e xs (fun j => vs[j]?) ∧ ∀ v ∈ vs, v.oneCell' = true := by
  have hf : ∀ j, j < xs.length * e.size → ∃ cv, f j = some cv ∧ ∃ x, xs[j / e.size]? = some x ∧ e.cell S w x (j % e.size) cv := by
    intro j hj
    have h0 : 0 < e.size := by rcases Nat.eq_zero_or_pos e.size with h | h; (rw [h] at hj; omega); exact h
    have hq : j / e.size < xs.length := Nat.div_lt_of_lt_mul (by rw [Nat.mul_comm]; exact hj)
    obtain ⟨cv, k1, k2⟩ := h (j / e.size) _ (List.getElem?_eq_getElem hq) (j % e.size) (Nat.mod_lt _ h0)
    exact ⟨cv, by rw [Nat.mul_comm, Nat.div_add_mod] at k1; exact k1, _, List.getElem?_eq_getElem hq, k2⟩
  refine ⟨(List.range (xs.length * e.size)).map fun j => (f j).getD undef, by simp, fun j v hv => ?_, fun i x hx j hj => ?_, fun v hv => ?_⟩
  · have hlt : j < xs.length * e.size := by have := (List.getElem?_eq_some_iff.1 hv).1; simpa using this
    obtain ⟨cv, k1, _⟩ := hf j hlt
    simp [hlt, k1] at hv
    rw [k1, hv]
  · have hi : i < xs.length := (List.getElem?_eq_some_iff.1 hx).1
    have hlt : i * e.size + j < xs.length * e.size := by
      have := Nat.mul_le_mul_right e.size (show i + 1 ≤ xs.length by omega)
      rw [Nat.succ_mul] at this; omega
    obtain ⟨cv, k1, k2⟩ := h i x hx j hj
    exact ⟨cv, by simp [hlt, k1], k2⟩
  · simp only [List.mem_map, List.mem_range] at hv
    obtain ⟨j, hj, rfl⟩ := hv
    obtain ⟨cv, k1, x, _, k2⟩ := hf j hj
    rw [k1]; exact cell_one e x _ cv k2

theorem RowsOf.append {S : BSet} {e : Ty} {xs ys : List e.den} {us vs : List Value} (hu : us.length = xs.length * e.size) (h : RowsOf S w e xs (fun j => us[j]?)) (k : RowsOf S w e ys (fun j => vs[j]?)) :
    RowsOf S w e (xs ++ ys) (fun j => (us ++ vs)[j]?) := by
  intro i x hx j hj
  by_cases hi : i < xs.length
  · rw [List.getElem?_append_left hi] at hx
    obtain ⟨cv, k1, k2⟩ := h i x hx j hj
    refine ⟨cv, ?_, k2⟩
    have := (List.getElem?_eq_some_iff.1 k1).1
    simp only
    rw [List.getElem?_append_left this]; exact k1
  · rw [List.getElem?_append_right (by omega)] at hx
    obtain ⟨cv, k1, k2⟩ := k (i - xs.length) x hx j hj
    refine ⟨cv, ?_, k2⟩
    have e1 : i * e.size + j - us.length = (i - xs.length) * e.size + j := by
      rw [hu, Nat.sub_mul]
      have := Nat.mul_le_mul_right e.size (show xs.length ≤ i by omega)
      omega
    simp only
    rw [List.getElem?_append_right (by rw [hu]; have := Nat.mul_le_mul_right e.size (show xs.length ≤ i by omega); omega), e1]; exact k1

/-- A row that is owned, in the kit's word. -/
theorem RowRel.owns {loc : Value} {T : TypeId} {e : Ty} {xs : List e.den} (hw : RW Γ s.L c w) {id ver : Nat} (hL : s.L[id]? = some (.row ver T e xs)) (hloc : loc = c.m id) :
    ∃ vs, w.ownsRow Γ.B T e.size loc xs.length vs ∧ RowsOf c.S w e xs (fun j => vs[j]?) := by
  subst hloc
  have hr : RowRel c w (c.m id) T e xs := hw.objs id _ hL
  rcases hr with ⟨h1, h2⟩ | ⟨b, cap, cells, h1, h2, h3, h4, h5, h6⟩
  · rw [h1, h2]
    exact ⟨[], World.ownsRow_nil _ _ _ _, fun i x hx => by simp at hx⟩
  · have hb : Γ.B ≤ b := (hw.owns id _ b hL ⟨_, _, h1⟩).1
    have hle : xs.length * e.size ≤ cells.toList.length := by
      have q : cells.toList.length = cells.size := Array.length_toList
      rw [q, h5]; exact Nat.mul_le_mul_right _ h3
    refine ⟨cells.toList.take (xs.length * e.size), ⟨by rw [List.length_take]; exact Nat.min_eq_left hle, .inr ⟨b, cap, cells, h1, hb, h4, h3, h2, h5, rfl⟩⟩, fun i x hx j hj => ?_⟩
    obtain ⟨cv, k1, k2⟩ := h6 i x hx j hj
    have hi : i < xs.length := (List.getElem?_eq_some_iff.1 hx).1
    have hlt : i * e.size + j < xs.length * e.size := by
      have := Nat.mul_le_mul_right e.size (show i + 1 ≤ xs.length by omega)
      rw [Nat.succ_mul] at this; omega
    refine ⟨cv, ?_, k2⟩
    simp only
    rw [List.getElem?_take_of_lt hlt]; simpa using k1

theorem RowRel.of_owns {loc : Value} {T : TypeId} {e : Ty} {xs : List e.den} {B : Nat} {vs : List Value} (h : w.ownsRow B T e.size loc xs.length vs) (hr : RowsOf c.S w e xs (fun j => vs[j]?)) : RowRel c w loc T e xs := by
  obtain ⟨hl, h⟩ := h
  rcases h with ⟨h1, h2⟩ | ⟨b, cap, cur, h1, h2, h3, h4, h5, h6, h7⟩
  · exact .inl ⟨h1, List.eq_nil_of_length_eq_zero h2⟩
  · refine .inr ⟨b, cap, cur, h1, h5, h4, h3, h6, fun i x hx j hj => ?_⟩
    obtain ⟨cv, k1, k2⟩ := hr i x hx j hj
    refine ⟨cv, ?_, k2⟩
    simp only at k1
    have hi : i < xs.length := (List.getElem?_eq_some_iff.1 hx).1
    have hlt : i * e.size + j < xs.length * e.size := by
      have := Nat.mul_le_mul_right e.size (show i + 1 ≤ xs.length by omega)
      rw [Nat.succ_mul] at this; omega
    rw [← h7, List.getElem?_take_of_lt hlt] at k1
    simpa using k1

theorem RowsOf.mono {S S' : BSet} {w' : World} {e : Ty} {xs : List e.den} {f : Nat → Option Value} (h : RowsOf S w e xs f) (hS : ∀ b, S b → S' b) (hh : ∀ b, S b → w'.heap[b]? = w.heap[b]?) : RowsOf S' w' e xs f :=
  fun i x hx j hj => let ⟨cv, k1, k2⟩ := h i x hx j hj; ⟨cv, k1, Ty.cell_mono hS hh e x j cv k2⟩

/-- The source of an append: nil, or elements that lie one behind the other. -/
def SrcAt (S : BSet) (w : World) (e : Ty) (ys : List e.den) (v : Value) : Prop :=
  (v = .slice none 0 0 ∧ ys = []) ∨ ∃ (p : Addr) (n : Nat) (vs : List Value), v = .slice (some p) ys.length n ∧ vs.length = ys.length * e.size ∧ (∀ j u, vs[j]? = some u → w.cell? (p.add j) = some u) ∧ (∀ u ∈ vs, u.oneCell' = true) ∧ RowsOf S w e ys (fun j => vs[j]?)

/-- The source of an append. -/
theorem srcX_some (hw : RW Γ s.L c w) {e : Ty} {av : AV} {v : Value} {ys : List e.den} (hv : RelAV s.L c w av v) (h : srcX s.L e av = some ys) :
    SrcAt c.S w e ys v := by
  have fromRows : ∀ (b o cap : Nat), v = .slice (some ⟨b, o, none⟩) ys.length cap → RowsOf c.S w e ys (fun j => w.cell? ⟨b, o + j, none⟩) →
      ∃ (p : Addr) (n : Nat) (vs : List Value), v = .slice (some p) ys.length n ∧ vs.length = ys.length * e.size ∧ (∀ j u, vs[j]? = some u → w.cell? (p.add j) = some u) ∧ (∀ u ∈ vs, u.oneCell' = true) ∧ RowsOf c.S w e ys (fun j => vs[j]?) := by
    intro b o cap hv' hr
    obtain ⟨vs, h1, h2, h3, h4⟩ := hr.list
    exact ⟨⟨b, o, none⟩, cap, vs, hv', h1, fun j u hu => by rw [Addr.add_mid]; exact h2 j u hu, h4, h3⟩
  unfold srcX at h
  split at h
  · rename_i e' zs
    obtain ⟨rfl, hz⟩ := castL_some h
    simp only at hz
    subst hz
    simp only [RelAV] at hv
    obtain ⟨p, cap, h1, h2, h3, h4⟩ := Ty.val_one (t := .slice e') rfl hv
    by_cases hne : zs = []
    · subst hne
      cases p with
      | none => have := h3 rfl; subst this; exact .inl ⟨h1, rfl⟩
      | some p => exact .inr ⟨p, cap, [], h1, by simp, by simp, by simp, fun i x hx => by simp at hx⟩
    · obtain ⟨b, o, rfl, hb, hr⟩ := h4 hne
      exact .inr (fromRows b o cap h1 (fun i x hx j hj => hr i x hx j hj))
  · rename_i id ver e'
    obtain ⟨T, hL⟩ := rowData_some h
    simp only [RelAV, RowAt, hL] at hv
    have hv := hv.2 trivial
    have hr : RowRel c w (c.m id) T e ys := hw.objs id _ hL
    rcases hr with ⟨h1, h2⟩ | ⟨b, cap, cells, h1, h2, h3, h4, h5, h6⟩
    · exact .inl ⟨by rw [hv, h1], h2⟩
    · refine .inr (fromRows b 0 cap (by rw [hv, h1]) (fun i x hx j hj => ?_))
      obtain ⟨cv, k1, k2⟩ := h6 i x hx j hj
      exact ⟨cv, by simp [World.cell?, h4, k1], k2⟩
  · rename_i id ver e' lo hi
    cases hd : decide (e' = e) with
    | false => rw [hd] at h; cases h
    | true =>
    rw [hd] at h
    simp only [cond_true] at h
    have hee : e' = e := of_decide_eq_true hd
    subst hee
    simp only [Option.map_eq_some_iff] at h
    obtain ⟨xs, hxs, rfl⟩ := h
    obtain ⟨T, hL⟩ := rowData_some hxs
    simp only [RelAV, RowAt, hL] at hv
    obtain ⟨g0, g1, hs⟩ := hv.2 trivial
    have hr : RowRel c w (c.m id) T e' xs := hw.objs id _ hL
    rcases hs with ⟨q1, rfl, rfl⟩ | ⟨b, n, cap, a, q1, q2, q2', rfl, q3⟩
    · exact .inl ⟨rfl, by simp⟩
    · rcases hr with ⟨h1, h2⟩ | ⟨b', cap', cells, h1, h2, h3, h4, h5, h6⟩
      · rw [q1] at h1; cases h1
      · rw [q1] at h1
        simp only [Value.slice.injEq, Option.some.injEq, Addr.mk.injEq, and_true] at h1
        obtain ⟨rfl, rfl, rfl⟩ := h1
        have hlen : (List.take (hi.toNat - lo.toNat) (List.drop lo.toNat xs)).length = hi.toNat - lo.toNat := by
          rw [List.length_take, List.length_drop]; omega
        rcases Nat.eq_zero_or_pos (hi.toNat - lo.toNat) with hz | hz
        · have hnil : List.take (hi.toNat - lo.toNat) (List.drop lo.toNat xs) = [] := List.eq_nil_of_length_eq_zero (by omega)
          refine .inr ⟨a, cap - lo.toNat, [], by rw [hlen], by rw [hnil]; simp, by simp, by simp, fun i x hx => by rw [hnil] at hx; simp at hx⟩
        · refine .inr (fromRows b (lo.toNat * e'.size) (cap - lo.toNat) (by rw [hlen, q3 (by omega)]) (fun i x hx j hj => ?_))
          have hlt : i < hi.toNat - lo.toNat := by rw [← hlen]; exact (List.getElem?_eq_some_iff.1 hx).1
          rw [List.getElem?_take_of_lt hlt, List.getElem?_drop] at hx
          obtain ⟨cv, k1, k2⟩ := h6 _ x hx j hj
          refine ⟨cv, ?_, k2⟩
          rw [Nat.add_mul] at k1
          simp only [World.cell?, h4]
          rw [show lo.toNat * e'.size + (i * e'.size + j) = lo.toNat * e'.size + i * e'.size + j by omega]
          simp [k1]
  · simp only [Option.some.injEq] at h
    subst h
    simp only [RelAV] at hv
    exact .inl ⟨hv, rfl⟩
  · cases h

theorem append_run {P : Program} {t T : TypeId} {e : Ty} {base : Value} {n : Nat} {us : List Value} {ty : TypeId} {B : Nat} (hB : B ≤ w.heap.size) (hu : P.underlying t = some (.slice T)) {i : TypeInfo} (hi : P.info? T = some i) (hs : i.size = e.size) (h0 : 0 < e.size)
    (hby : i.bytes ≤ 65536) {z : Value} (hz : i.zero = some z) (hzs : z.cells.size = e.size) (hown : w.ownsRow B T e.size base n us)
    {ys : List e.den} {v : Value} {S : BSet} (hsrc : SrcAt S w e ys v) (hmax : n + ys.length ≤ maxRow) :
    ∃ v' w' vs, (Builtin.append_ #[t, t] ty #[base, v]).run P w = .ok v' w' ∧ w'.ownsRow B T e.size v' (n + ys.length) (us ++ vs) ∧ w.grownBy w' base.ownBlock ∧ vs.length = ys.length * e.size ∧ RowsOf S w e ys (fun j => vs[j]?) ∧
      ∀ b, v'.ownBlock = some b → base.ownBlock = some b ∨ w.heap.size ≤ b := by
  unfold maxRow at hmax
  rcases hsrc with ⟨rfl, rfl⟩ | ⟨p, k, vs, rfl, hl, hc, h1, hr⟩
  · have := run_append_owned_none (P := P) (w := w) B t ty T i e.size hu hi base n us hown
    exact ⟨base, w, [], this, by simpa using hown, ⟨rfl, rfl, rfl, Nat.le_refl _, fun _ _ _ => rfl⟩, by simp, fun i x hx => by simp at hx, fun b hb => .inl hb⟩
  · have hbytes : (n + ys.length) * i.bytes ≤ 140737488355328 := by have := Nat.mul_le_mul hmax hby; omega
    obtain ⟨v', w', k1, k2, k3, k4⟩ := run_append_own (P := P) w B t ty T i z e.size i.bytes hu hi hz hs rfl hzs h0 base n us hown p ys.length k vs hl hc h1 (by unfold maxLen; omega) hbytes hB
    refine ⟨v', w', vs, k1, k2, k3, hl, hr, fun b hb => ?_⟩
    have hl' : vs.length = ys.length * i.size := by rw [hs]; exact hl
    rcases hown.2 with ⟨rfl, rfl⟩ | ⟨g, cap, cur, rfl, _, hg, hnc, hcm, hcs, htake⟩
    · by_cases hm : ys.length = 0
      · have := k4.2 ⟨rfl, hm⟩; rw [this] at hb; cases hb
      · have hr := run_append_nil (P := P) w t ty T i z hu hi hz p ys.length k vs hl' hc (by omega) (by omega) (by simp only [Nat.zero_add] at hbytes; omega)
        rw [k1] at hr
        cases hr
        simp only [Value.ownBlock, Option.some.injEq] at hb
        exact .inr (by omega)
    · by_cases hroom : n + ys.length ≤ cap
      · have hfit : n * i.size + vs.length ≤ cur.size := by rw [hl', hcs, hs, ← Nat.add_mul]; exact Nat.mul_le_mul_right _ hroom
        have hr := run_append_room (P := P) w t ty T i hu hi g n cap cur hg p ys.length k vs hl' hc h1 hroom hfit
        rw [k1] at hr
        cases hr
        exact .inl hb
      · have holds : ∀ j u, us[j]? = some u → w.cell? ((⟨g, 0, none⟩ : Addr).add j) = some u := hown.cells (g := g) rfl
        have hr := run_append_grow (P := P) w t ty T i z hu hi hz ⟨g, 0, none⟩ n cap us (by rw [hs]; exact hown.1) holds p ys.length k vs hl' hc (by omega) (by omega) (growslice_fits (by omega) hbytes)
        rw [k1] at hr
        cases hr
        simp only [Value.ownBlock, Option.some.injEq] at hb
        exact .inr (by omega)

theorem bytesB_some {P : Program} {t : TypeId} (h : bytesB P t = true) : ∃ i, P.info? t = some i ∧ i.bytes ≤ 65536 := by
  unfold bytesB at h
  split at h
  · rename_i i hi; exact ⟨i, hi, Nat.le_of_ble_eq_true h⟩
  · cases h

/-- A row is made anew, or appended to: what it was, and what it comes to. -/
theorem grown_same {w' : World} {row : Option Nat} (hg : w.grownBy w' row) : Alike w w' := ⟨hg.os, hg.tape, hg.output, hg.size⟩

theorem ownBlock_owns {v : Value} {B : Nat} {T : TypeId} {sz n : Nat} {us : List Value} (h : w.ownsRow B T sz v n us) : ∀ b, v.ownBlock = some b ↔ ∃ n cap, v = .slice (some ⟨b, 0, none⟩) n cap := by
  intro b
  rcases h.2 with ⟨h1, _⟩ | ⟨g, cap, cur, h1, _⟩
  · subst h1; simp [Value.ownBlock]
  · subst h1; simp [Value.ownBlock]

theorem op_append {E : Env} {o : Oper} {K : St → Prop} {t : TypeId} {x y : Operand} (hnq : quietOp E o.op = false) (hex : ∀ v w', (Builtin.append_ #[t, t] o.type #[a.eval x, a.eval y]).run E.P w = .ok v w' → (execOp a.eval o).run E.P w = .ok (.value v) w')
    (hR : R Γ s c E.N a w) (h : appendX E t (evalO s x) (evalO s y) s (fun v s' => putX E o.dst K v s')) : OpOk E Γ o s c a w K := by
  have hx := evalO_rel hR x
  have hy := evalO_rel hR y
  unfold appendX at h
  split at h
  · rename_i T e hsl
    obtain ⟨hu, ⟨i, hi, hs⟩, h0⟩ := sliceDOf_some hsl
    cases hb : (bytesB E.P T && zeroB E.P T e) with
    | false => rw [hb] at h; exact h.elim
    | true =>
      rw [hb] at h
      simp only [Bool.and_eq_true] at hb
      simp only [cond_true] at h
      obtain ⟨i', hi', hby⟩ := bytesB_some hb.1
      have : i' = i := by rw [hi] at hi'; simpa using hi'.symm
      subst this
      obtain ⟨i2, z, hi2, hz, hzo⟩ := zeroB_some hb.2
      have : i2 = i' := by rw [hi] at hi2; simpa using hi2.symm
      subst this
      obtain ⟨p, e1, l1, _⟩ := zeroOk_some (L := s.L) (c := c) (w := w) (S := c.S) e _ _ hzo
      rw [List.append_nil] at e1
      have hzs : z.cells.size = e.size := by rw [← l1, ← e1, Array.length_toList]
      split at h
      · rename_i ys hys
        have hsrc := srcX_some hR.rw_ hy hys
        split at h
        · rename_i id ver e' hev
          rw [hev] at hx
          cases hlk : lockedB s id with
          | true => rw [hlk] at h; exact h.elim
          | false =>
            rw [hlk] at h
            simp only [cond_false] at h
            have hlock := lockedB_false hlk
            split at h
            · rename_i cv T' e2 xs0 hL
              cases hbb : (Nat.beq ver cv && Nat.beq T T') with
              | false => rw [hbb] at h; exact h.elim
              | true =>
                rw [hbb] at h
                simp only [Bool.and_eq_true] at hbb
                have q1 := Nat.eq_of_beq_eq_true hbb.1
                have q2 := Nat.eq_of_beq_eq_true hbb.2
                subst q1; subst q2
                simp only [cond_true] at h
                split at h
                · rename_i xs hxs
                  obtain ⟨rfl, hxs⟩ := castL_some hxs
                  simp only at hxs
                  subst hxs
                  simp only [RelAV, RowAt, hL] at hx
                  have hv := hx.2 trivial
                  obtain ⟨us, ho, hus⟩ := RowRel.owns hR.rw_ hL hv
                  obtain ⟨v', w', vs, k1, k2, k3, k4, k5, k6⟩ := append_run (P := E.P) (ty := o.type) hR.rw_.base hu hi hs h0 hby hz hzs ho hsrc h.1
                  have hno : ∀ b, Owns (.row ver T e2 xs0) (c.m id) b ↔ (a.eval x).ownBlock = some b := fun b => by
                    rw [ownBlock_owns ho, hv]; exact Iff.rfl
                  have hh : ∀ b, b < w.heap.size → ¬ Owns (.row ver T e2 xs0) (c.m id) b → w'.heap[b]? = w.heap[b]? := fun b hb hn =>
                    k3.block b hb (fun e => hn ((hno b).2 e.symm))
                  obtain ⟨m1, m2⟩ := hR.rw_.chg hL (o' := .row (ver + 1) T e2 (xs0 ++ ys)) (v' := v') (grown_same k3) hh
                    (fun b hb => by
                      obtain ⟨n', cap', e3⟩ := hb
                      obtain ⟨g1, g2⟩ := k2.lt b (by rw [e3]; rfl)
                      rcases k6 b (by rw [e3]; rfl) with q | q
                      · exact ⟨.inl ((hno b).2 q), g2⟩
                      · exact ⟨.inr q, g2⟩)
                    ⟨rfl, rfl, by omega, fun e => by omega⟩ (iter_ne hR.rw_ hL (by intro _ _ _ e; cases e))
                    (fun hst => RowRel.of_owns (by rw [List.length_append]; exact k2) ((RowsOf.append ho.1 hus k5).mono (fun _ h => h) hst.heap))
                  refine OpOk.step hR h.2 (Adv.chg m2 hR.rw_ hL hlock hh) rfl m1 (hex _ _ k1) ?_ (by rw [hnq]; intro h; cases h)
                  simp only [RelAV, RowAt, St.setL]
                  have : id < s.L.length := (List.getElem?_eq_some_iff.1 hL).1
                  simp [this]
                · exact h.elim
            · exact h.elim
        · rename_i hev
          rw [hev] at hx
          simp only [RelAV] at hx
          rw [hx] at hex
          have ho : w.ownsRow Γ.B T e.size (.slice none 0 0) 0 [] := World.ownsRow_nil _ _ _ _
          obtain ⟨v', w', vs, k1, k2, k3, k4, k5, k6⟩ := append_run (P := E.P) (ty := o.type) hR.rw_.base hu hi hs h0 hby hz hzs ho hsrc (by simpa using h.1)
          have hh : ∀ b, b < w.heap.size → w'.heap[b]? = w.heap[b]? := fun b hb => k3.block b hb (fun e => by cases e)
          simp only [Nat.zero_add, List.nil_append] at k2
          obtain ⟨m1, m2⟩ := hR.rw_.add (o' := .row 0 T e ys) (v' := v') (grown_same k3) hh
            (fun b hb => by
              obtain ⟨n', cap', e3⟩ := hb
              obtain ⟨g1, g2⟩ := k2.lt b (by rw [e3]; rfl)
              rcases k6 b (by rw [e3]; rfl) with q | q
              · cases q
              · exact ⟨q, g2⟩)
            (fun hst => RowRel.of_owns k2 (k5.mono (fun _ h => h) hst.heap))
          refine OpOk.step hR h.2 (Adv.add m2 hR.rw_ hh) rfl m1 (hex _ _ k1) ?_ (by rw [hnq]; intro h; cases h)
          simp only [RelAV, RowAt, St.addL]
          simp [Ctx.set]
        · exact h.elim
      · exact h.elim
  · exact h.elim
end

end Go.Proofs.Ytodjomdnlcledaa.X
