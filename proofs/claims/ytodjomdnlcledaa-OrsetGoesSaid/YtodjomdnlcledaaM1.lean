/- Operations: maps. -/
import Derived.Test.YtodjomdnlcledaaY10
import Derived.MapKept
import Derived.Laws.IdiomRangeMap
namespace Go.Proofs.Ytodjomdnlcledaa.X
open Go Go.RowKit
set_option linter.unusedSimpArgs false
set_option linter.unusedVariables false

section
variable {Γ : Base} {s : St} {c : Ctx} {N : Nat} {a : Act} {w : World}

/-- Data that are one have one value. -/
theorem eqD_cell {S S' : BSet} {w w' : World} : ∀ (t : Ty), t.flat = true → ∀ (x y : t.den), eqD t x y = true → ∀ (j : Nat) (cv : Value), j < t.size → t.cell S w x j cv → t.cell S' w' y j cv
  | .int k, _, x, y, h, j, cv, _, hx => by
    have : x = y := by simpa [eqD] using h
    subst this; exact hx
  | .bool, _, x, y, h, j, cv, _, hx => by
    have : x = y := by simpa [eqD] using h
    subst this; exact hx
  | .str, _, x, y, h, j, cv, _, hx => by
    have : x = y := by
      have h' : ((x : ByteArray) == y) = true := h
      exact (MapKept.bytes_beq x y).1 h'
    subst this; exact hx
  | .arr n k, _, x, y, h, j, cv, hj, hx => by
    simp only [eqD, List.all_eq_true, List.mem_range] at h
    have := h j hj
    simp only [Ty.cell] at hx ⊢
    rw [hx]
    congr 1
    simpa using this
  | .slice _, hf, _, _, _, _, _, _, _ => by simp [Ty.flat] at hf
  | .ref _, hf, _, _, _, _, _, _, _ => by simp [Ty.flat] at hf
  | .pair a b, hf, x, y, h, j, cv, hj, hx => by
    simp only [Ty.flat, Bool.and_eq_true] at hf
    simp only [eqD, Bool.and_eq_true] at h
    simp only [Ty.cell] at hx ⊢
    split
    · rename_i hlt; rw [if_pos hlt] at hx; exact eqD_cell a hf.1 _ _ h.1 j cv hlt hx
    · rename_i hge
      rw [if_neg hge] at hx
      exact eqD_cell b hf.2 _ _ h.2 _ cv (by simp only [Ty.size] at hj; omega) hx
  | .unit, _, _, _, _, j, cv, hj, _ => by simp [Ty.size] at hj

theorem cell_flat_eq {S S' : BSet} {w w' : World} : ∀ (t : Ty), t.flat = true → ∀ (x : t.den) (j : Nat) (u v : Value), t.cell S w x j u → t.cell S' w' x j v → u = v
  | .int k, _, x, j, u, v, h, h' => by simp only [Ty.cell] at h h'; rw [h, h']
  | .bool, _, x, j, u, v, h, h' => by simp only [Ty.cell] at h h'; rw [h, h']
  | .str, _, x, j, u, v, h, h' => by simp only [Ty.cell] at h h'; rw [h, h']
  | .arr n k, _, x, j, u, v, h, h' => by simp only [Ty.cell] at h h'; rw [h, h']
  | .slice _, hf, _, _, _, _, _, _ => by simp [Ty.flat] at hf
  | .ref _, hf, _, _, _, _, _, _ => by simp [Ty.flat] at hf
  | .pair a b, hf, x, j, u, v, h, h' => by
    simp only [Ty.flat, Bool.and_eq_true] at hf
    simp only [Ty.cell] at h h'
    split at h
    · rename_i hlt; rw [if_pos hlt] at h'; exact cell_flat_eq a hf.1 _ _ _ _ h h'
    · rename_i hge; rw [if_neg hge] at h'; exact cell_flat_eq b hf.2 _ _ _ _ h h'
  | .unit, _, _, _, _, _, h, _ => h.elim

theorem val_agg_form {t : Ty} {S : BSet} {x : t.den} {v : Value} (h : t.val S w x v) : (t.isAgg = true → ∃ us, v = .agg us) ∧ (t.isAgg = false → ∀ us, v ≠ .agg us) := by
  obtain ⟨h1, _, _⟩ := h
  constructor
  · intro ht; rw [ht] at h1; cases v <;> simp [aggB] at h1; exact ⟨_, rfl⟩
  · rintro ht us rfl; rw [ht] at h1; simp [aggB] at h1

theorem eqD_val {t : Ty} (hf : t.flat = true) {S S' : BSet} {w w' : World} {x y : t.den} {u v : Value} (h : eqD t x y = true) (hx : t.val S w x u) (hy : t.val S' w' y v) : u = v := by
  obtain ⟨x1, x2, x3⟩ := id hx
  obtain ⟨y1, y2, y3⟩ := id hy
  have hc : u.cells = v.cells := by
    apply Array.ext_getElem?
    intro j
    by_cases hj : j < t.size
    · obtain ⟨cu, k1, k2⟩ := x3 j hj
      obtain ⟨cv, m1, m2⟩ := y3 j hj
      rw [k1, m1]
      have := eqD_cell (S' := S') (w' := w') t hf x y h j cu hj k2
      rw [cell_flat_eq t hf y j cu cv this m2]
    · rw [Array.getElem?_eq_none (by omega), Array.getElem?_eq_none (by omega)]
  cases ht : t.isAgg with
  | true =>
    obtain ⟨us, rfl⟩ := (val_agg_form hx).1 ht
    obtain ⟨vs, rfl⟩ := (val_agg_form hy).1 ht
    simpa [Value.cells] using hc
  | false =>
    have e1 : u.cells = #[u] := by
      have := (val_agg_form hx).2 ht
      cases u <;> first | rfl | exact absurd rfl (this _)
    have e2 : v.cells = #[v] := by
      have := (val_agg_form hy).2 ht
      cases v <;> first | rfl | exact absurd rfl (this _)
    rw [e1, e2] at hc
    simpa using hc

def scalarV : Value → Bool | .int _ _ => true | .bool _ => true | .string _ => true | _ => false

theorem cell_flat_scalar {S : BSet} {w : World} : ∀ (t : Ty), t.flat = true → ∀ (x : t.den) (j : Nat) (u : Value), t.cell S w x j u → scalarV u = true
  | .int k, _, x, j, u, h => by simp only [Ty.cell] at h; rw [h]; rfl
  | .bool, _, x, j, u, h => by simp only [Ty.cell] at h; rw [h]; rfl
  | .str, _, x, j, u, h => by simp only [Ty.cell] at h; rw [h]; rfl
  | .arr n k, _, x, j, u, h => by simp only [Ty.cell] at h; rw [h]; rfl
  | .slice _, hf, _, _, _, _ => by simp [Ty.flat] at hf
  | .ref _, hf, _, _, _, _ => by simp [Ty.flat] at hf
  | .pair a b, hf, x, j, u, h => by
    simp only [Ty.flat, Bool.and_eq_true] at hf
    simp only [Ty.cell] at h
    split at h
    · exact cell_flat_scalar a hf.1 _ _ _ h
    · exact cell_flat_scalar b hf.2 _ _ _ h
  | .unit, _, _, _, _, h => h.elim

theorem sameBits_scalar (n : Nat) {v : Value} (h : scalarV v = true) : Instr.sameBits n v v = true := by
  cases v <;> simp [scalarV] at h <;> simp [Instr.sameBits, MapKept.bytes_beq]

theorem sameBits_val {t : Ty} (hf : t.flat = true) {S : BSet} {x : t.den} {v : Value} (h : t.val S w x v) (n : Nat) : Instr.sameBits (n + 1) v v = true := by
  cases ht : t.isAgg with
  | true =>
    obtain ⟨us, rfl⟩ := (val_agg_form h).1 ht
    simp only [Instr.sameBits, beq_self_eq_true, Bool.true_and, List.all_eq_true]
    rintro ⟨p, q⟩ hm
    obtain ⟨i, hi⟩ := List.getElem?_of_mem hm
    rw [List.getElem?_zip_eq_some] at hi
    obtain ⟨h1, h2⟩ := hi
    have hpq : p = q := by rw [h1] at h2; simpa using h2
    subst hpq
    have hlt : i < t.size := by
      rw [← h.2.1]; have := (List.getElem?_eq_some_iff.1 h1).1; simpa [Value.cells] using this
    obtain ⟨cv, k1, k2⟩ := h.2.2 i hlt
    have hp : us[i]? = some p := by rw [← Array.getElem?_toList]; exact h1
    have : cv = p := by
      have k1' : us[i]? = some cv := k1
      rw [hp] at k1'; simpa using k1'.symm
    subst this
    exact sameBits_scalar n (cell_flat_scalar t hf x i cv k2)
  | false =>
    have := (Ty.val_one ht h)
    exact sameBits_scalar _ (cell_flat_scalar t hf x 0 v this)

/-- What stands of a type of keys. -/
structure KeyOk (E : Env) (kT : TypeId) (k : Ty) : Prop where
  flat : k.flat = true
  check : ∀ (S : BSet) (w : World) (x : k.den) (v : Value), k.val S w x v → ∀ e w', (Instr.checkKey e 10000 kT v).run E.P w' = .ok () w'
  find : ∀ (S : BSet) (w : World) (x : k.den) (v : Value) {vt : Ty} (es : List (k.den × vt.den)) (l : List MapEntry), k.val S w x v → All2 (entryRel S w k vt) es l →
    ∃ r, (∀ w', (Instr.findKey kT v l).run E.P w' = .ok r w') ∧ match r with
      | none => mget k es x = none ∧ (∀ y, mput k es x y = es ++ [(x, y)]) ∧ mdel k es x = es
      | some (i, val) => ∃ en z, l[i]? = some en ∧ en.val = val ∧ mget k es x = some z ∧ vt.val S w z val ∧ en.key = v ∧ (∀ y, mput k es x y = es.set i (x, y)) ∧ mdel k es x = es.eraseIdx i ∧ i < es.length

theorem All2.len {α β : Type} {R : α → β → Prop} : ∀ {as : List α} {bs : List β}, All2 R as bs → as.length = bs.length
  | [], [], _ => rfl
  | a :: as, b :: bs, h => by simp [All2.len h.2]
  | [], _ :: _, h => h.elim
  | _ :: _, [], h => h.elim

/-- One by one, by a test that is the data's. -/
theorem find_list {E : Env} {kT : TypeId} {k vt : Ty} (hf : k.flat = true) {S : BSet} {w : World} {x : k.den} {v : Value} (hv : k.val S w x v) :
    ∀ (es : List (k.den × vt.den)) (l : List MapEntry) (i0 : Nat), All2 (entryRel S w k vt) es l →
    ∃ r : Option (Nat × Value), (∀ (f : List MapEntry → Nat → Option (Nat × Value)), (∀ i, f [] i = none) →
        (∀ e es i, ∀ y : k.den, k.val S w y e.key → f (e :: es) i = bif eqD k x y then some (i, e.val) else f es (i + 1)) → f l i0 = r) ∧
      match r with
      | none => mget k es x = none ∧ (∀ y, mput k es x y = es ++ [(x, y)]) ∧ mdel k es x = es
      | some (i, val) => ∃ j en z, i = i0 + j ∧ l[j]? = some en ∧ en.val = val ∧ mget k es x = some z ∧ vt.val S w z val ∧ en.key = v ∧ (∀ y, mput k es x y = es.set j (x, y)) ∧ mdel k es x = es.eraseIdx j ∧ j < es.length
  | [], [], i0, _ => ⟨none, fun f h0 _ => h0 _, rfl, fun _ => rfl, rfl⟩
  | [], _ :: _, _, h => h.elim
  | _ :: _, [], _, h => h.elim
  | p :: es, e :: l, i0, h => by
    obtain ⟨h1, h2⟩ := h
    cases hb : eqD k x p.1 with
    | true =>
      refine ⟨some (i0, e.val), fun f h0 hs => by rw [hs e l i0 p.1 h1.1, hb]; rfl, 0, e, p.2, rfl, rfl, rfl, ?_, h1.2, (eqD_val hf hb hv h1.1).symm, fun y => ?_, ?_, by simp⟩
      · simp [mget, hb]
      · simp [mput, hb]
      · simp [mdel, hb]
    | false =>
      obtain ⟨r, k1, k2⟩ := find_list (E := E) (kT := kT) hf hv es l (i0 + 1) h2
      refine ⟨r, fun f h0 hs => by rw [hs e l i0 p.1 h1.1, hb]; exact k1 f h0 hs, ?_⟩
      cases r with
      | none =>
        obtain ⟨m1, m2, m3⟩ := k2
        exact ⟨by simp [mget, hb, m1], fun y => by simp [mput, hb, m2], by simp [mdel, hb, m3]⟩
      | some q =>
        obtain ⟨i, val⟩ := q
        obtain ⟨j, en, z, rfl, m2, m3, m4, m5, m6, m7, m8, m9⟩ := k2
        exact ⟨j + 1, en, z, by omega, by simpa using m2, m3, by simp [mget, hb, m4], m5, m6, fun y => by simp [mput, hb, m7], by simp [mdel, hb, m8], by simp; omega⟩

theorem keyOk_scalar {E : Env} {kT : TypeId} {k : Ty} {d : TypeDesc} (hd : E.P.underlying kT = some d) (hf : k.flat = true) (hk : ∀ (S : BSet) (w : World) (x : k.den) (v : Value), k.val S w x v → MapKept.IsKey d v)
    (hs : ∀ (S : BSet) (w : World) (x y : k.den) (u v : Value), k.val S w x u → k.val S w y v → Instr.sameNow d u v = some (eqD k x y)) : KeyOk E kT k := by
  refine ⟨hf, fun S w x v hv e w' => MapKept.run_checkKey hd (hk S w x v hv) e _, fun S w x v vt es l hv hl => ?_⟩
  obtain ⟨r, k1, k2⟩ := find_list (E := E) (kT := kT) hf hv es l 0 hl
  have key : ∀ (es : List (k.den × vt.den)) (l : List MapEntry) (i : Nat), All2 (entryRel S w k vt) es l → ∃ q, Instr.findNow d v l i = some q := by
    intro es
    induction es with
    | nil => intro l i h; cases l with | nil => exact ⟨none, rfl⟩ | cons _ _ => exact h.elim
    | cons p es ih =>
      intro l i h
      cases l with
      | nil => exact h.elim
      | cons e l =>
        unfold Instr.findNow
        rw [hs S w x p.1 v e.key hv h.1.1]
        cases eqD k x p.1 with
        | true => exact ⟨_, rfl⟩
        | false => exact ih l (i + 1) h.2
  obtain ⟨q, hq⟩ := key es l 0 hl
  refine ⟨q, fun w' => MapKept.run_findKey hd hq, ?_⟩
  have e1 : q = r := by
    have := k1 (fun l i => (Instr.findNow d v l i).getD none) (fun i => rfl) (fun e es' i y hy => by
      simp only [Instr.findNow, hs S w x y v e.key hv hy]
      cases eqD k x y <;> rfl)
    rw [hq] at this
    exact this
  subst e1
  cases q with
  | none => exact k2
  | some p =>
    obtain ⟨i, val⟩ := p
    obtain ⟨j, en, z, e, m⟩ := k2
    have : i = j := by omega
    subst this
    exact ⟨en, z, m⟩

theorem findAsking_list {P : Program} {kT : TypeId} {k vt : Ty} {S : BSet} {w w' : World} {x : k.den} {v : Value} (hv : k.val S w x v)
    (heq : ∀ (y : k.den) (u : Value), k.val S w y u → (Op.equal kT v u).run P w' = .ok (eqD k x y) w') :
    ∀ (es : List (k.den × vt.den)) (l : List MapEntry) (i : Nat), All2 (entryRel S w k vt) es l → ∃ q, (Instr.findAsking kT v l i).run P w' = .ok q w'
  | [], [], i, _ => ⟨none, rfl⟩
  | [], _ :: _, _, h => h.elim
  | _ :: _, [], _, h => h.elim
  | p :: es, e :: l, i, h => by
    obtain ⟨q, hq⟩ := findAsking_list hv heq es l (i + 1) h.2
    cases hb : eqD k x p.1 with
    | true => exact ⟨some (i, e.val), by simp [Instr.findAsking, heq p.1 e.key h.1.1, hb, Result.andThen]⟩
    | false => exact ⟨q, by simp [Instr.findAsking, heq p.1 e.key h.1.1, hb, Result.andThen, hq]⟩

theorem keyOk_struct {E : Env} (he : EqvOk E) {kT : TypeId} {k : Ty} {fs : Array Field} (hd : E.P.underlying kT = some (.struct fs)) (hf : k.flat = true) (hag : k.isAgg = true) (hq : E.eqv kT k = true) : KeyOk E kT k := by
  refine ⟨hf, fun S w x v hv e w' => (he kT k hq S w' x x v v (Ty.val_flat hf hv) (Ty.val_flat hf hv)).1 e, fun S w x v vt es l hv hl => ?_⟩
  obtain ⟨r, k1, k2⟩ := find_list (E := E) (kT := kT) hf hv es l 0 hl
  have heq : ∀ (w' : World) (y : k.den) (u : Value), k.val S w y u → (Op.equal kT v u).run E.P w' = .ok (eqD k x y) w' := fun w' y u hu => (he kT k hq S w' x y v u (Ty.val_flat hf hv) (Ty.val_flat hf hu)).2.1
  obtain ⟨us, rfl⟩ := (val_agg_form hv).1 hag
  refine ⟨r, fun w' => ?_, ?_⟩
  · obtain ⟨q, hq'⟩ := findAsking_list hv (heq w') es l 0 hl
    have e1 : q = r := by
      have := k1 (fun l i => match (Instr.findAsking kT (.agg us) l i).run E.P w' with | .ok q _ => q | .halt _ _ => none) (fun i => rfl) (fun e es' i y hy => by
        simp only [Instr.findAsking, Sem.run_bind, heq w' y e.key hy, Result.andThen_ok]
        cases eqD k x y <;> simp)
      simp only [hq'] at this
      exact this
    subst e1
    have hn : Instr.findNow (.struct fs) (.agg us) l 0 = (match l with | [] => some none | _ :: _ => none) := by
      cases l <;> rfl
    simp only [Instr.findKey, Sem.run_bind, run_underlying hd, Result.andThen_ok, hn]
    cases l with
    | nil => simpa [Instr.findAsking] using hq'
    | cons e l => exact hq'
  · cases r with
    | none => exact k2
    | some p =>
      obtain ⟨i, val⟩ := p
      obtain ⟨j, en, z, e, m⟩ := k2
      have : i = j := by omega
      subst this
      exact ⟨en, z, m⟩

theorem keyB_ok {E : Env} (he : EqvOk E) {kT : TypeId} {k : Ty} (h : keyB E kT k = true) : KeyOk E kT k := by
  unfold keyB at h
  split at h
  · rename_i i i' hd
    have : i = i' := by simpa using h
    subst this
    refine keyOk_scalar hd rfl (fun S w x v hv => ?_) (fun S w x y u v hu hv => ?_)
    · rw [val_int hv]; exact rfl
    · rw [val_int hu, val_int hv]; simp [Instr.sameNow, eqD]
  · rename_i hd
    refine keyOk_scalar hd rfl (fun S w x v hv => ?_) (fun S w x y u v hu hv => ?_)
    · rw [val_str hv]; exact trivial
    · rw [val_str hu, val_str hv]; simp [Instr.sameNow, eqD]
  · rename_i hd
    refine keyOk_scalar hd rfl (fun S w x v hv => ?_) (fun S w x y u v hu hv => ?_)
    · rw [val_bool hv]; exact trivial
    · rw [val_bool hu, val_bool hv]; simp [Instr.sameNow, eqD]
  · rename_i a b fs hd
    simp only [Bool.and_eq_true] at h
    exact keyOk_struct he hd h.1 rfl h.2
  · cases h

/-- A type's zero. -/
theorem zeroV_some {P : Program} {t : TypeId} {u : Ty} (h : zeroV P t u = true) (S : BSet) : ∃ z, (∀ w, (zeroValue t).run P w = .ok z w) ∧ u.val S w u.dflt z := by
  unfold zeroV at h
  simp only [Bool.and_eq_true] at h
  obtain ⟨h1, h2⟩ := h
  obtain ⟨i, z, hi, hz, hzo⟩ := zeroB_some h1
  rw [hi] at h2
  simp only [hz] at h2
  obtain ⟨p, e1, l1, d1, _⟩ := zeroOk_some (L := []) (c := ⟨fun _ => undef, S⟩) (w := w) (S := S) u _ _ hzo
  rw [List.append_nil] at e1
  refine ⟨z, fun w => by unfold zeroValue typeInfo; simp only [Sem.run_bind, run_program, Result.andThen_ok, hi, Sem.run_pure, hz], ?_, by rw [← l1, ← e1, Array.length_toList], fun j hj => ?_⟩
  · exact eq_of_beq h2
  · obtain ⟨cv, q1, q2⟩ := d1 j hj
    exact ⟨cv, by rw [← Array.getElem?_toList, e1]; exact q1, q2⟩

theorem mapIs_some {E : Env} {t : TypeId} {k v : Ty} (h : mapIs E t k v = true) : ∃ kT vT, E.P.underlying t = some (.map kT vT) ∧ keyB E kT k = true ∧ zeroV E.P vT v = true := by
  unfold mapIs at h
  split at h
  · rename_i kT vT hu
    split at h
    · simp only [Bool.and_eq_true] at h
      exact ⟨kT, vT, hu, h.1.2, h.2⟩
    · cases h
  · cases h

/-- Objects that are no maps are let go. -/
theorem goneAny_ok : ∀ (ids : List Nat) (L : List AObj) (c : Ctx), RW Γ L c w → (∀ id ∈ ids, ∃ o, L[id]? = some o ∧ ∀ k v es, o ≠ .map k v es) →
    ∃ S', RW Γ (goneAll L ids) ⟨c.m, S'⟩ w ∧ Step L c w (goneAll L ids) ⟨c.m, S'⟩ w ∧ (∀ i, i ∉ ids → (goneAll L ids)[i]? = L[i]?) ∧ (∀ i ∈ ids, (goneAll L ids)[i]? = some .gone) ∧ (goneAll L ids).length = L.length
  | [], L, c, hw, _ => ⟨c.S, hw, Step.refl _ _ _, fun _ _ => rfl, fun _ h => by simp at h, rfl⟩
  | id :: ids, L, c, hw, h => by
    obtain ⟨o, ho, hom⟩ := h id (by simp)
    obtain ⟨h1, h2⟩ := hw.freeze ho (iter_ne hw ho hom)
    have hlt : id < L.length := (List.getElem?_eq_some_iff.1 ho).1
    obtain ⟨S', k1, k2, k3, k4, k5⟩ := goneAny_ok ids (L.set id .gone) _ h1 (fun i hi => by
      by_cases e : i = id
      · subst e; exact ⟨.gone, by simp [hlt], fun _ _ _ e => by cases e⟩
      · obtain ⟨p, hp, hpm⟩ := h i (by simp [hi]); exact ⟨p, by rw [List.getElem?_set_ne (Ne.symm e)]; exact hp, hpm⟩)
    refine ⟨S', k1, h2.trans k2, fun i hi => ?_, fun i hi => ?_, by simp only [goneAll]; rw [k5]; simp⟩
    · simp only [List.mem_cons, not_or] at hi
      simp only [goneAll]
      rw [k3 i hi.2, List.getElem?_set_ne (Ne.symm hi.1)]
    · simp only [goneAll]
      by_cases hm : i ∈ ids
      · exact k4 i hm
      · rw [k3 i hm]
        rcases List.mem_cons.1 hi with rfl | hi
        · simp [hlt]
        · exact absurd hi hm

theorem dropIters_ok {s' : St} {mid : Nat} (hw : RW Γ s.L c w) (h : dropIters s mid = some s') {k v : Ty} {es : List (k.den × v.den)} (hm : s.L[mid]? = some (.map k v es)) :
    ∃ c', RW Γ s'.L c' w ∧ Adv s c w s' c' w ∧ s'.sl = s.sl ∧ s'.L[mid]? = some (.map k v es) ∧ c'.m = c.m ∧ ∀ (i : Nat) (k v : Ty) (td : List (k.den × v.den)) (cur : Option (k.den × v.den)), s'.L[i]? ≠ some (AObj.iter mid k v td cur) := by
  unfold dropIters at h
  simp only at h
  generalize hids : (List.range s.L.length).filter (fun i => match s.L[i]? with | some (AObj.iter m _ _ _ _) => Nat.beq m mid | _ => false) = ids at h
  cases hb : ids.all (fun i => !lockedB s i) with
  | false => rw [hb] at h; cases h
  | true =>
    rw [hb] at h
    simp only [cond_true, Option.some.injEq] at h
    subst h
    have mem : ∀ i, i ∈ ids ↔ ∃ k v td cur, s.L[i]? = some (AObj.iter mid k v td cur) := by
      intro i
      rw [← hids, List.mem_filter, List.mem_range]
      constructor
      · rintro ⟨hi, hx⟩
        split at hx
        · rename_i m k v td cur e
          have := Nat.eq_of_beq_eq_true hx
          subst this
          exact ⟨k, v, td, cur, e⟩
        · cases hx
      · rintro ⟨k, v, td, cur, e⟩
        exact ⟨(List.getElem?_eq_some_iff.1 e).1, by rw [e]; simp⟩
    obtain ⟨S', k1, k2, k3, k4, k5⟩ := goneAny_ok ids s.L c hw (fun i hi => by
      obtain ⟨k, v, td, cur, e⟩ := (mem i).1 hi
      exact ⟨_, e, fun _ _ _ e => by cases e⟩)
    have hmid : mid ∉ ids := fun hi => by
      obtain ⟨k, v, td, cur, e⟩ := (mem mid).1 hi
      rw [hm] at e; cases e
    refine ⟨⟨c.m, S'⟩, k1, ⟨k2, rfl, fun id hid o ho => ⟨?_, rfl, fun _ _ => rfl⟩⟩, rfl, by rw [k3 mid hmid]; exact hm, rfl, fun i k v td cur e => ?_⟩
    · rw [k3 id (fun hi => ?_)]; exact ho
      have := List.all_eq_true.1 hb id hi
      rw [Bool.not_eq_true'] at this
      exact lockedB_false this hid
    · by_cases hi : i ∈ ids
      · simp only [k4 i hi] at e; cases e
      · simp only [k3 i hi] at e
        exact hi ((mem i).2 ⟨k, v, td, cur, e⟩)

theorem op_lookup {E : Env} {o : Oper} {K : St → Prop} (he : EqvOk E) {t : TypeId} {x y : Operand} {ok : Bool} (ho : o.op = .lookup t x y ok) (hR : R Γ s c E.N a w) (h : opX E o s K) : PlainOk E o s c a w K := by
  have hx := evalO_rel hR x
  have hy := evalO_rel hR y
  unfold opX at h; rw [ho] at h; simp only at h
  unfold lookupX at h
  split at h
  · rename_i id ex
    rw [ex] at hx
    simp only [RelAV] at hx
    split at h
    · rename_i k v es hL
      cases hb : mapIs E t k v with
      | false => rw [hb] at h; exact h.elim
      | true =>
        rw [hb] at h
        simp only [cond_true] at h
        obtain ⟨kT, vT, hu, hk, hz⟩ := mapIs_some hb
        have hK := keyB_ok he hk
        split at h
        · rename_i p hp
          obtain ⟨b, entries, clock, h1, h2, h3, h4, h5, h6⟩ : ObjRel s.L c w (c.m id) (.map k v es) := hR.rw_.objs id _ hL
          have hmv : a.eval x = .map (some b) := by rw [hx.2, h1]
          have hkv := toDataNil_val hR.rw_ hy hp
          have hblt : b < w.heap.size := (hR.rw_.owns id _ b hL h1).2.1
          obtain ⟨r, f1, f2⟩ := hK.find c.S w p (a.eval y) es entries.toList hkv h4
          have hc := hK.check c.S w p (a.eval y) hkv entries.isEmpty
          obtain ⟨val, hval, hrun⟩ : ∃ val : Value, v.val c.S w ((mget k es p).getD v.dflt) val ∧ ∀ w', Ext w w' → (Instr.lookup t (.map (some b)) (a.eval y) ok).run E.P w' = .ok (if ok then .tuple #[val, .bool (mget k es p).isSome] else val) w' := by
            cases r with
            | none =>
              obtain ⟨f2, _, _⟩ := f2
              obtain ⟨z, z1, z2⟩ := zeroV_some (w := w) hz c.S
              refine ⟨z, by rw [f2]; exact z2, fun w' hw' => ?_⟩
              have hh' : w'.heap[b]? = some (.map entries clock) := by rw [hw' b hblt]; exact h2
              simp only [Instr.lookup, Sem.run_bind, run_underlying hu, Result.andThen_ok, MapKept.run_getObj_map hh', Sem.run_pure, hc, f1, z1, f2]
              cases ok <;> simp
            | some q =>
              obtain ⟨i, val⟩ := q
              obtain ⟨en, z, g1, g2, g3, g4, _⟩ := f2
              refine ⟨val, by rw [g3]; exact g4, fun w' hw' => ?_⟩
              have hh' : w'.heap[b]? = some (.map entries clock) := by rw [hw' b hblt]; exact h2
              simp only [Instr.lookup, Sem.run_bind, run_underlying hu, Result.andThen_ok, MapKept.run_getObj_map hh', Sem.run_pure, hc, f1, g3]
              cases ok <;> simp
          have hex : ∀ w', Ext w w' → (execOp a.eval o).run E.P w' = .ok (.value (if ok then .tuple #[val, .bool (mget k es p).isSome] else val)) w' := by
            intro w' hw'
            unfold execOp; rw [ho]; simp only [hmv, Sem.run_bind, hrun w' hw', Result.andThen_ok, Sem.run_pure]
          cases ok with
          | true =>
            refine OpOk.value hR h hex ?_
            simp only [RelAV, RelAVs]
            exact ⟨_, rfl, val, [.bool (mget k es p).isSome], by simp, hval, .bool (mget k es p).isSome, [], rfl, bool_val _ _ _, rfl⟩
          | false =>
            refine OpOk.value hR h hex ?_
            simp only [RelAV]
            exact hval
        · exact h.elim
    · exact h.elim
  · exact h.elim

theorem OpOk.skip {E : Env} {o : Oper} {K : St → Prop} {s1 : St} {c1 : Ctx} {w1 : World} (hR : R Γ s c E.N a w) (hK : putX E o.dst K .junk s1)
    (hadv : Adv s c w s1 c1 w1) (hs : s1.sl = s.sl) (hw : RW Γ s1.L c1 w1) (hr : (execOp a.eval o).run E.P w = .ok .skip w1) (hq : quietOp E o.op = true → Ext w w1) : OpOk E Γ o s c a w K := by
  intro W next Q hW hn
  unfold Oper.wp
  rw [hr]
  exact put_done (v := undef) hR hK hadv hs hw (by simp only [RelAV]) hW hq hn

theorem op_makeMap {E : Env} {o : Oper} {K : St → Prop} (he : EqvOk E) {t : TypeId} {r : Option Operand} (ho : o.op = .makeMap t r) (hR : R Γ s c E.N a w) (h : opX E o s K) : OpOk E Γ o s c a w K := by
  unfold opX at h; rw [ho] at h; simp only at h
  have fin : ∀ {k v : Ty}, mapTy E t = some (k, v) → putX E o.dst K (.mp s.L.length) (s.addL (.map k v [])) → (Instr.makeMap t (r.map a.eval)).run E.P w = .ok (.map (some w.heap.size)) (w.alloc (.map #[] 0)) → OpOk E Γ o s c a w K := by
    intro k v hm h hrun
    have hk : k.flat = true := by
      unfold mapTy at hm
      split at hm
      · rename_i kT vT hu
        split at hm
        · rename_i k1 v1 e1 e2
          cases hb : keyB E kT k1 with
          | false => rw [hb] at hm; cases hm
          | true =>
            rw [hb] at hm
            simp only [cond_true, Option.some.injEq, Prod.mk.injEq] at hm
            obtain ⟨rfl, rfl⟩ := hm
            exact (keyB_ok he hb).flat
        · cases hm
      · cases hm
    have hh : ∀ b, b < w.heap.size → (w.alloc (.map #[] 0)).heap[b]? = w.heap[b]? := fun b hb => heap_alloc_old w _ hb
    obtain ⟨m1, m2⟩ := hR.rw_.add (o' := .map k v []) (v' := .map (some w.heap.size)) (w' := w.alloc (.map #[] 0)) ⟨rfl, rfl, rfl, by simp⟩ hh
      (fun b hb => by
        have : w.heap.size = b := by simpa [Owns] using hb
        simp; omega)
      (fun hst => ⟨w.heap.size, #[], 0, rfl, heap_alloc_new w _, hk, trivial, by simp, by simp⟩)
    refine OpOk.step hR h (Adv.add m2 hR.rw_ hh) rfl m1 ?_ ?_ (fun _ => hh) (v := .map (some w.heap.size))
    · unfold execOp; rw [ho]; simp only [Sem.run_bind, hrun, Result.andThen_ok, Sem.run_pure]
    · simp only [RelAV, MapAt, St.addL]
      simp [Ctx.set]
  cases r with
  | none =>
    simp only [Option.map_none] at h
    split at h
    · rename_i k v hm _
      refine fin hm h ?_
      simp [Instr.makeMap, Result.andThen]
    · rename_i e; cases e
    · exact h.elim
  | some x =>
    have hx := evalO_rel hR x
    simp only [Option.map_some] at h
    split at h
    · rename_i e; cases e
    · rename_i k v ik n hm e
      simp only [Option.some.injEq] at e
      rw [e] at hx
      simp only [RelAV] at hx
      refine fin hm h ?_
      obtain ⟨kT, vT, hu⟩ : ∃ kT vT, E.P.underlying t = some (.map kT vT) := by
        unfold mapTy at hm
        split at hm
        · exact ⟨_, _, by assumption⟩
        · cases hm
      simp only [Option.map_some, val_int hx]
      simp [Instr.makeMap, run_underlying hu, asInt, asIntOf, Result.andThen]
    · exact h.elim

/-- A map turns. -/
theorem map_chg {id : Nat} {k v : Ty} {es es' : List (k.den × v.den)} (hw : RW Γ s.L c w) (hL : s.L[id]? = some (.map k v es)) (hl : id ∉ s.lock) (hit : ∀ (i : Nat) (k v : Ty) (td : List (k.den × v.den)) (cur : Option (k.den × v.den)), s.L[i]? ≠ some (AObj.iter id k v td cur))
    {b : Nat} {entries entries' : Array MapEntry} {clock clock' : Nat} (hm : c.m id = .map (some b)) (hh : w.heap[b]? = some (.map entries clock)) (hk : k.flat = true) (h1 : All2 (entryRel c.S w k v) es' entries'.toList) (h2 : ∀ e ∈ entries'.toList, e.born < clock') (h3 : (entries'.toList.map (·.born)).Nodup) :
    RW Γ (s.setL id (.map k v es')).L (c.set id (c.m id)) { w with heap := w.heap.setIfInBounds b (.map entries' clock') } ∧
    Adv s c w (s.setL id (.map k v es')) (c.set id (c.m id)) { w with heap := w.heap.setIfInBounds b (.map entries' clock') } := by
  have hhs := MapKept.heap_set (o' := .map entries' clock') hh
  have hh' : ∀ b', b' < w.heap.size → ¬ Owns (.map k v es) (c.m id) b' → ({ w with heap := w.heap.setIfInBounds b (.map entries' clock') } : World).heap[b']? = w.heap[b']? :=
    fun b' _ hno => hhs.2 b' (fun e => hno (by rw [e]; exact hm))
  obtain ⟨k1, k2⟩ := hw.chg hL (o' := .map k v es') (v' := c.m id) (w' := { w with heap := w.heap.setIfInBounds b (.map entries' clock') }) ⟨rfl, rfl, rfl, by simp⟩ hh'
    (fun b' hb' => ⟨.inl hb', by have := (hw.owns id _ b' hL hb').2.1; simpa using this⟩) (by simp [Evol]) (fun i mid k v td cur _ hi e => hit i k v td cur (e ▸ hi))
    (fun hs => ⟨b, entries', clock', hm, hhs.1, hk, All2.imp (fun _ _ h => h.mono hs.more hs.heap) _ _ h1, h2, h3⟩)
  exact ⟨k1, Adv.chg k2 hw hL hl hh'⟩

theorem All2.snoc {α β : Type} {R : α → β → Prop} {x : α} {y : β} (h : R x y) : ∀ (as : List α) (bs : List β), All2 R as bs → All2 R (as ++ [x]) (bs ++ [y])
  | [], [], _ => ⟨h, trivial⟩
  | a :: as, b :: bs, hh => ⟨hh.1, All2.snoc h as bs hh.2⟩
  | [], _ :: _, hh => hh.elim
  | _ :: _, [], hh => hh.elim

theorem All2.set {α β : Type} {R : α → β → Prop} {x : α} {y : β} (h : R x y) : ∀ (as : List α) (bs : List β) (i : Nat), All2 R as bs → All2 R (as.set i x) (bs.set i y)
  | [], [], _, _ => by simp [All2]
  | a :: as, b :: bs, 0, hh => by simp only [List.set_cons_zero]; exact ⟨h, hh.2⟩
  | a :: as, b :: bs, i + 1, hh => by simp only [List.set_cons_succ]; exact ⟨hh.1, All2.set h as bs i hh.2⟩
  | [], _ :: _, _, hh => hh.elim
  | _ :: _, [], _, hh => hh.elim

theorem All2.erase {α β : Type} {R : α → β → Prop} : ∀ (as : List α) (bs : List β) (i : Nat), All2 R as bs → All2 R (as.eraseIdx i) (bs.eraseIdx i)
  | [], [], _, _ => by simp [All2]
  | a :: as, b :: bs, 0, hh => hh.2
  | a :: as, b :: bs, i + 1, hh => by simp only [List.eraseIdx_cons_succ]; exact ⟨hh.1, All2.erase as bs i hh.2⟩
  | [], _ :: _, _, hh => hh.elim
  | _ :: _, [], _, hh => hh.elim

theorem All2.get {α β : Type} {R : α → β → Prop} : ∀ (as : List α) (bs : List β) (i : Nat) (x : α) (y : β), All2 R as bs → as[i]? = some x → bs[i]? = some y → R x y
  | [], _, i, x, y, _, h, _ => by simp at h
  | a :: as, [], i, x, y, h, _, _ => h.elim
  | a :: as, b :: bs, 0, x, y, hh, h, h' => by simp at h h'; subst h; subst h'; exact hh.1
  | a :: as, b :: bs, i + 1, x, y, hh, h, h' => All2.get as bs i x y hh.2 (by simpa using h) (by simpa using h')

theorem op_mapUpdate {E : Env} {o : Oper} {K : St → Prop} (he : EqvOk E) {t : TypeId} {x y z : Operand} (ho : o.op = .mapUpdate t x y z ∨ o.op = .insert t x y z) (hR : R Γ s c E.N a w) (h : opX E o s K) : OpOk E Γ o s c a w K := by
  have hx := evalO_rel hR x
  have hy := evalO_rel hR y
  have hz := evalO_rel hR z
  have h' : mapUpdateX E t (evalO s x) (evalO s y) (evalO s z) s fun s' => putX E o.dst K .junk s' := by
    rcases ho with ho | ho <;> (unfold opX at h; rw [ho] at h; exact h)
  have hex : ∀ w1, (Instr.mapUpdate t (a.eval x) (a.eval y) (a.eval z)).run E.P w = .ok () w1 → (execOp a.eval o).run E.P w = .ok .skip w1 := by
    intro w1 hr
    rcases ho with ho | ho <;> (unfold execOp; rw [ho]; simp only [Sem.run_bind, hr, Result.andThen_ok, Sem.run_pure])
  have hq : quietOp E o.op = false := by rcases ho with ho | ho <;> rw [ho] <;> rfl
  clear h
  unfold mapUpdateX at h'
  split at h'
  · rename_i id ex
    rw [ex] at hx
    simp only [RelAV] at hx
    cases hlk : lockedB s id with
    | true => rw [hlk] at h'; exact h'.elim
    | false =>
      rw [hlk] at h'
      simp only [cond_false] at h'
      split at h'
      · rename_i k v es hL
        cases hb : mapIs E t k v with
        | false => rw [hb] at h'; exact h'.elim
        | true =>
          rw [hb] at h'
          simp only [cond_true] at h'
          obtain ⟨kT, vT, hu, hk, _⟩ := mapIs_some hb
          have hK := keyB_ok he hk
          split at h'
          · rename_i p q s1 hp htk
            split at h'
            · rename_i s2 hdr
              have hkv0 := toDataNil_val hR.rw_ hy hp
              obtain ⟨c1, g1, g2, g3, g4⟩ := takeD_ok (P := E.P) hR.rw_ hz htk
              have hL1 : s1.L[id]? = some (.map k v es) := by
                have hte : ∃ ids, freeB s ids = true ∧ s1 = ⟨s.sl, goneAll s.L ids, s.lock⟩ := by
                  unfold takeD at htk
                  split at htk
                  · cases hf : freeB s (evalO s z).lent with
                    | false => rw [hf] at htk; cases htk
                    | true => rw [hf] at htk; simp only [cond_true, Option.some.injEq, Prod.mk.injEq] at htk; exact ⟨_, hf, htk.2.symm⟩
                  · cases htk
                obtain ⟨ids, hf, rfl⟩ := hte
                obtain ⟨_, _, _, _, _, m5, _⟩ := goneAll_ok ids s.L c hR.rw_ (fun i hi => .inl (freeB_some hf i hi).2)
                rw [m5 id (fun hi => by obtain ⟨_, cv, T, e, xs, e1⟩ := freeB_some hf id hi; rw [hL] at e1; cases e1)]; exact hL
              obtain ⟨c2, d1, d2, d3, d4, d5, d6⟩ := dropIters_ok g1 hdr hL1
              obtain ⟨b, entries, clock, r1, r2, r3, r4, r5, r6⟩ : ObjRel s2.L c2 w (c2.m id) (.map k v es) := d1.objs id _ d4
              have hmid : c2.m id = c.m id := by
                obtain ⟨_, e⟩ := (show MapAt s.L id by simp [MapAt, hL]).step (g2.trans d2).step
                exact e
              have hmv : a.eval x = .map (some b) := by rw [hx.2, ← hmid, r1]
              have hkv : k.val c2.S w p (a.eval y) := Ty.val_flat hK.flat hkv0
              have hvv : v.val c2.S w q (a.eval z) := Ty.val_mono d2.step.more (fun _ _ => rfl) g4
              have hlock2 : id ∉ s2.lock := by rw [d2.lock, g2.lock]; exact lockedB_false hlk
              obtain ⟨r, f1, f2⟩ := hK.find c2.S w p (a.eval y) es entries.toList hkv r4
              have hc := hK.check c2.S w p (a.eval y) hkv false w
              have hadv := g2.trans d2
              have fin : ∀ (es' : List (k.den × v.den)) (entries' : Array MapEntry) (clock' : Nat), mput k es p q = es' → All2 (entryRel c2.S w k v) es' entries'.toList → (∀ e ∈ entries'.toList, e.born < clock') → (entries'.toList.map (·.born)).Nodup →
                  (Instr.mapUpdate t (.map (some b)) (a.eval y) (a.eval z)).run E.P w = .ok () { w with heap := w.heap.setIfInBounds b (.map entries' clock') } → OpOk E Γ o s c a w K := by
                intro es' entries' clock' hput q1 q2 q3 hrun
                obtain ⟨n1, n2⟩ := map_chg (es' := es') d1 d4 hlock2 d6 r1 r2 r3 q1 q2 q3
                rw [hput] at h'
                refine OpOk.skip hR h' (hadv.trans n2) (by show s2.sl = s.sl; rw [d3, g3]) n1 (hex _ (by rw [hmv]; exact hrun)) (fun e => by rw [hq] at e; cases e)
              cases r with
              | none =>
                obtain ⟨_, f3, _⟩ := f2
                refine fin _ (entries.push ⟨a.eval y, a.eval z, clock⟩) (clock + 1) (f3 q) ?_ ?_ ?_ ?_
                · rw [Array.toList_push]; exact All2.snoc (show entryRel c2.S w k v (p, q) ⟨a.eval y, a.eval z, clock⟩ from ⟨hkv, hvv⟩) _ _ r4
                · intro e hem
                  simp only [Array.toList_push, List.mem_append, List.mem_singleton] at hem
                  rcases hem with hem | rfl
                  · have := r5 e hem; omega
                  · simp
                · simp only [Array.toList_push, List.map_append, List.map_cons, List.map_nil]
                  rw [List.nodup_append]
                  refine ⟨r6, by simp, ?_⟩
                  intro i hi j hj e
                  simp only [List.mem_singleton] at hj
                  subst hj; subst e
                  obtain ⟨en, hen, e⟩ := List.mem_map.1 hi
                  have := r5 en hen; omega
                · simp only [Instr.mapUpdate, Sem.run_bind, run_underlying hu, Result.andThen_ok, MapKept.run_getObj_map r2, hc, f1 w, MapKept.run_setObj_map _ r2]
              | some ri =>
                obtain ⟨i, val⟩ := ri
                obtain ⟨en, zz, f3, f4, f5, f6, f7, f8, f9, f10⟩ := f2
                have hi : i < entries.size := by have := (List.getElem?_eq_some_iff.1 f3).1; simpa using this
                have hen : entries[i]? = some en := by rw [← Array.getElem?_toList]; exact f3
                have hmod : ∀ f : MapEntry → MapEntry, (entries.modify i f).toList = entries.toList.set i (f en) := by
                  intro f
                  rw [Array.toList_modify]
                  apply List.ext_getElem?
                  intro j
                  rw [List.getElem?_modify, List.getElem?_set]
                  by_cases hij : i = j
                  · subst hij; simp [f3]
                    have := (List.getElem?_eq_some_iff.1 f3).1; simpa using this
                  · simp [hij]
                refine fin _ (entries.modify i fun e => { e with key := a.eval y, val := a.eval z }) clock (f8 q) ?_ ?_ ?_ ?_
                · rw [hmod]; exact All2.set (show entryRel c2.S w k v (p, q) _ from ⟨hkv, hvv⟩) _ _ i r4
                · intro e hem
                  rw [hmod] at hem
                  rcases List.mem_or_eq_of_mem_set hem with hem | rfl
                  · exact r5 e hem
                  · exact r5 en (List.mem_of_getElem? f3)
                · rw [hmod, List.map_set]
                  have : (entries.toList.map (·.born)).set i en.born = entries.toList.map (·.born) := by
                    apply List.ext_getElem?
                    intro j
                    rw [List.getElem?_set]
                    by_cases hij : i = j
                    · subst hij
                      simp [f3]
                      have := (List.getElem?_eq_some_iff.1 f3).1; simpa using this
                    · simp [hij]
                  rw [this]; exact r6
                · have hstay : (Instr.keyThatStays (((entries[i]?).map (·.key)).getD (a.eval y)) (a.eval y)).run E.P w = .ok (a.eval y) w := by
                    rw [hen]
                    simp only [Option.map_some, Option.getD_some, f7]
                    simp [Instr.keyThatStays, sameBits_val hK.flat hkv]
                  simp only [Instr.mapUpdate, Sem.run_bind, run_underlying hu, Result.andThen_ok, MapKept.run_getObj_map r2, hc, f1 w, hstay, MapKept.run_setObj_map _ r2]
            · exact h'.elim
          · exact h'.elim
      · exact h'.elim
  · exact h'.elim

theorem delete_ok {E : Env} {K : AV → St → Prop} (he : EqvOk E) {t ty : TypeId} {ts : Array TypeId} {x y : Operand} (hR : R Γ s c E.N a w) (h : deleteX E t (evalO s x) (evalO s y) s (K (.tup []))) :
    ∃ s' c' w', K (.tup []) s' ∧ Adv s c w s' c' w' ∧ s'.sl = s.sl ∧ RW Γ s'.L c' w' ∧ (Builtin.delete_ (t :: ts.toList).toArray ty #[a.eval x, a.eval y]).run E.P w = .ok (.tuple #[]) w' := by
  have hx := evalO_rel hR x
  have hy := evalO_rel hR y
  unfold deleteX at h
  split at h
  · rename_i id ex
    rw [ex] at hx
    simp only [RelAV] at hx
    cases hlk : lockedB s id with
    | true => rw [hlk] at h; exact h.elim
    | false =>
      rw [hlk] at h
      simp only [cond_false] at h
      split at h
      · rename_i k v es hL
        cases hb : mapIs E t k v with
        | false => rw [hb] at h; exact h.elim
        | true =>
          rw [hb] at h
          simp only [cond_true] at h
          obtain ⟨kT, vT, hu, hk, _⟩ := mapIs_some hb
          have hK := keyB_ok he hk
          split at h
          · rename_i p hp
            split at h
            · rename_i s2 hdr
              have hkv0 := toDataNil_val hR.rw_ hy hp
              obtain ⟨c2, d1, d2, d3, d4, d5, d6⟩ := dropIters_ok hR.rw_ hdr hL
              obtain ⟨b, entries, clock, r1, r2, r3, r4, r5, r6⟩ : ObjRel s2.L c2 w (c2.m id) (.map k v es) := d1.objs id _ d4
              have hmv : a.eval x = .map (some b) := by rw [hx.2, ← d5, r1]
              have hkv : k.val c2.S w p (a.eval y) := Ty.val_flat hK.flat hkv0
              have hlock2 : id ∉ s2.lock := by rw [d2.lock]; exact lockedB_false hlk
              obtain ⟨r, f1, f2⟩ := hK.find c2.S w p (a.eval y) es entries.toList hkv r4
              have hc := hK.check c2.S w p (a.eval y) hkv entries.isEmpty w
              have fin : ∀ (es' : List (k.den × v.den)) (entries' : Array MapEntry), mdel k es p = es' → All2 (entryRel c2.S w k v) es' entries'.toList → (∀ e ∈ entries'.toList, e.born < clock) → (entries'.toList.map (·.born)).Nodup →
                  (Builtin.delete_ (t :: ts.toList).toArray ty #[.map (some b), a.eval y]).run E.P w = .ok (.tuple #[]) { w with heap := w.heap.setIfInBounds b (.map entries' clock) } →
                  ∃ s' c' w', K (.tup []) s' ∧ Adv s c w s' c' w' ∧ s'.sl = s.sl ∧ RW Γ s'.L c' w' ∧ (Builtin.delete_ (t :: ts.toList).toArray ty #[a.eval x, a.eval y]).run E.P w = .ok (.tuple #[]) w' := by
                intro es' entries' hput q1 q2 q3 hrun
                obtain ⟨n1, n2⟩ := map_chg (es' := es') d1 d4 hlock2 d6 r1 r2 r3 q1 q2 q3
                rw [hput] at h
                exact ⟨_, _, _, h, d2.trans n2, d3, n1, by rw [hmv]; exact hrun⟩
              cases r with
              | none =>
                obtain ⟨_, _, f3⟩ := f2
                refine fin _ entries f3 r4 r5 r6 ?_
                simp [Builtin.delete_, run_underlying hu, Result.andThen_ok, MapKept.run_getObj_map r2, hc, f1 w, MapKept.run_setObj_map _ r2]
              | some ri =>
                obtain ⟨i, val⟩ := ri
                obtain ⟨en, zz, f3, f4, f5, f6, f7, f8, f9, f10⟩ := f2
                have hi : i < entries.size := by have := (List.getElem?_eq_some_iff.1 f3).1; simpa using this
                have hel : (entries.eraseIdxIfInBounds i).toList = entries.toList.eraseIdx i := by
                  simp [Array.eraseIdxIfInBounds, hi]
                refine fin _ (entries.eraseIdxIfInBounds i) f9 ?_ ?_ ?_ ?_
                · rw [hel]; exact All2.erase _ _ i r4
                · intro e hem
                  rw [hel] at hem
                  exact r5 e (List.mem_of_mem_eraseIdx hem)
                · rw [hel]
                  exact List.Nodup.sublist (List.Sublist.map _ (List.eraseIdx_sublist _ _)) r6
                · simp [Builtin.delete_, run_underlying hu, Result.andThen_ok, MapKept.run_getObj_map r2, hc, f1 w, MapKept.run_setObj_map _ r2]
            · exact h.elim
          · exact h.elim
      · exact h.elim
  · exact h.elim

theorem op_range {E : Env} {o : Oper} {K : St → Prop} {t : TypeId} {x : Operand} (ho : o.op = .range t x) (hR : R Γ s c E.N a w) (h : opX E o s K) : OpOk E Γ o s c a w K := by
  have hx := evalO_rel hR x
  unfold opX at h; rw [ho] at h; simp only at h
  split at h
  · rename_i id kT vT ex hu
    rw [ex] at hx
    simp only [RelAV] at hx
    split at h
    · rename_i k v es hL
      obtain ⟨b, entries, clock, r1, r2, r3, r4, r5, r6⟩ : ObjRel s.L c w (c.m id) (.map k v es) := hR.rw_.objs id _ hL
      have hmv : a.eval x = .map (some b) := by rw [hx.2, r1]
      have hblt : b < w.heap.size := (hR.rw_.owns id _ b hL r1).2.1
      have hh : ∀ b', b' < w.heap.size → (w.alloc (.mapIter (some b) clock #[] clock)).heap[b']? = w.heap[b']? := fun b' hb => heap_alloc_old w _ hb
      have hid : id < s.L.length := (List.getElem?_eq_some_iff.1 hL).1
      obtain ⟨m1, m2⟩ := hR.rw_.add (o' := .iter id k v es none) (v' := .pointer (some ⟨w.heap.size, 0, none⟩)) (w' := w.alloc (.mapIter (some b) clock #[] clock)) ⟨rfl, rfl, rfl, by simp⟩ hh
        (fun b' hb => by
          have : w.heap.size = b' := by simpa [Owns] using hb
          simp; omega)
        (fun hst => ⟨es, w.heap.size, b, entries, clock, #[], by rw [List.getElem?_append_left hid]; exact hL, rfl, heap_alloc_new w _, by rw [Ctx.set_other _ _ (by omega)]; exact r1,
          by rw [hh b hblt]; exact r2, r3, r5, r6, by
            have : entries.toList.filter (fun e => !(#[] : Array Nat).contains e.born) = entries.toList := List.filter_eq_self.2 (fun _ _ => by simp)
            rw [this]; exact All2.imp (fun _ _ h => h.mono hst.more hst.heap) _ _ r4, fun x hx => by cases hx⟩)
      refine OpOk.step hR h (Adv.add m2 hR.rw_ hh) rfl m1 ?_ ?_ (fun _ => hh) (v := .pointer (some ⟨w.heap.size, 0, none⟩))
      · unfold execOp; rw [ho]; simp only [hmv, Sem.run_bind, run_range_map w t kT vT b entries clock hu r2, Result.andThen_ok, Sem.run_pure]
      · simp only [RelAV, IterAt, St.addL]
        simp [Ctx.set]
    · exact h.elim
  · exact h.elim

theorem All2.getD {α β : Type} {R : α → β → Prop} (d : α) (d' : β) : ∀ (as : List α) (bs : List β) (i : Nat), i < bs.length → All2 R as bs → R (as.getD i d) (bs.getD i d')
  | [], [], _, hi, _ => by simp at hi
  | a :: as, b :: bs, 0, _, hh => by simpa using hh.1
  | a :: as, b :: bs, i + 1, hi, hh => by simpa using All2.getD d d' as bs i (by simpa using hi) hh.2
  | [], _ :: _, _, _, hh => hh.elim
  | _ :: _, [], _, _, hh => hh.elim

/-- Entries that are left when one more has been handed out. -/
theorem left_erase {seen : Array Nat} : ∀ (l : List MapEntry) (j : Nat) (e : MapEntry), (l.map (·.born)).Nodup → (l.filter fun x => !seen.contains x.born)[j]? = some e →
    (l.filter fun x => !(seen.push e.born).contains x.born) = (l.filter fun x => !seen.contains x.born).eraseIdx j
  | [], j, e, _, h => by simp at h
  | x :: l, j, e, hn, h => by
    simp only [List.map_cons, List.nodup_cons] at hn
    cases hc : seen.contains x.born with
    | true =>
      have hf : (x :: l).filter (fun x => !seen.contains x.born) = l.filter (fun x => !seen.contains x.born) := by simp only [List.filter_cons, hc, Bool.not_true, Bool.false_eq_true, if_false]
      have hf' : (x :: l).filter (fun x => !(seen.push e.born).contains x.born) = l.filter (fun x => !(seen.push e.born).contains x.born) := by
        have : (seen.push e.born).contains x.born = true := by simp only [Array.contains_push, hc, Bool.true_or]
        simp only [List.filter_cons, this, Bool.not_true, Bool.false_eq_true, if_false]
      rw [hf] at h ⊢
      rw [hf']
      exact left_erase l j e hn.2 h
    | false =>
      have hf : (x :: l).filter (fun x => !seen.contains x.born) = x :: l.filter (fun x => !seen.contains x.born) := by simp only [List.filter_cons, hc, Bool.not_false, if_true]
      rw [hf] at h ⊢
      cases j with
      | zero =>
        simp only [List.getElem?_cons_zero, Option.some.injEq] at h
        subst h
        have hc' : (seen.push x.born).contains x.born = true := by simp [Array.contains_push]
        simp only [List.filter_cons, hc', Bool.not_true, Bool.false_eq_true, if_false, List.eraseIdx_zero, List.tail_cons]
        apply List.filter_congr
        intro y hy
        have hne : y.born ≠ x.born := fun e => hn.1 (e ▸ List.mem_map.2 ⟨y, hy, rfl⟩)
        simp only [Array.contains_push]
        have : (y.born == x.born) = false := by simpa using hne
        rw [this, Bool.or_false]
      | succ j =>
        simp only [List.getElem?_cons_succ] at h
        have hmem : e ∈ l := by
          have := List.mem_of_getElem? h
          exact (List.mem_filter.1 this).1
        have hne : x.born ≠ e.born := fun he => hn.1 (he ▸ List.mem_map.2 ⟨e, hmem, rfl⟩)
        have hc' : (seen.push e.born).contains x.born = false := by
          have : (x.born == e.born) = false := by simpa using hne
          rw [Array.contains_push, hc, this]; rfl
        simp only [List.filter_cons, hc', Bool.not_false, if_true, List.eraseIdx_cons_succ]
        rw [left_erase l j e hn.2 h]

/-- The iterator's step. -/
theorem run_next {P : Program} {w : World} {b bm clock : Nat} {seen : Array Nat} {entries : Array MapEntry} (ty : TypeId) (hb : w.heap[b]? = some (.mapIter (some bm) clock seen clock)) (hm : w.heap[bm]? = some (.map entries clock)) (hold : ∀ x ∈ entries.toList, x.born < clock) :
    ((entries.toList.filter fun e => !seen.contains e.born) = [] ∧ (Instr.next (.pointer (some ⟨b, 0, none⟩)) false ty).run P w = .ok (.tuple #[.bool false]) w) ∨
    ∃ (j : Nat) (e : MapEntry) (w1 : World), (entries.toList.filter fun e => !seen.contains e.born)[j]? = some e ∧ (w1 = w ∨ w1 = w.drew) ∧
      (Instr.next (.pointer (some ⟨b, 0, none⟩)) false ty).run P w = .ok (.tuple #[.bool true, e.key, e.val]) { w1 with heap := w1.heap.setIfInBounds b (.mapIter (some bm) clock (seen.push e.born) clock) } := by
  simp only [Instr.next, getObj, Sem.run_bind, Sem.run, hb, hm, Result.andThen, next_test_false seen entries clock clock hold (Nat.le_refl _), Bool.false_eq_true, if_false]
  have hL : (Array.filter (fun e => !seen.contains e.born) entries).toList = entries.toList.filter fun e => !seen.contains e.born := by simp
  rw [← hL]
  have hmem : ∀ x ∈ (Array.filter (fun e => !seen.contains e.born) entries).toList, x.born < clock := fun x hx => hold x (by simp at hx ⊢; exact hx.1)
  generalize Array.filter (fun e => !seen.contains e.born) entries = L at hmem ⊢
  have e1 : L.filter (fun x => decide (x.born < clock)) = L := Array.filter_eq_self.2 (fun x hx => by simpa using hmem x (by simpa using hx))
  have e2 : L.filter (fun x => decide (x.born ≥ clock)) = #[] := by
    rw [Array.filter_eq_empty_iff]
    intro x hx
    have := hmem x (by simpa using hx)
    simp
    omega
  simp only [e1, e2, Array.append_empty]
  by_cases h0 : L.size = 0
  · left
    have : L = #[] := Array.eq_empty_of_size_eq_zero h0
    subst this
    refine ⟨rfl, ?_⟩
    simp [choose, Sem.run, Question.forced]
  · right
    have hne : L.isEmpty = false := by simp [Array.isEmpty, h0]
    simp only [hne, Bool.false_eq_true, if_false, Array.empty_append, Array.size_map]
    have hch : ∃ (j : Nat) (w1 : World), j < L.size ∧ (w1 = w ∨ w1 = w.drew) ∧ (choose (Question.mapNext L.size)).run P w = .ok j w1 := by
      by_cases hf : L.size ≤ 1
      · exact ⟨0, w, by omega, .inl rfl, by simp [choose, Sem.run, Question.forced, hf]⟩
      · exact ⟨_, w.drew, Nat.mod_lt _ (by omega), .inr rfl, by
          simp only [choose, Sem.run, Question.forced, decide_eq_true_eq, hf, if_false, Question.cut]
          rfl⟩
    obtain ⟨j, w1, hj, hal, hrun⟩ := hch
    refine ⟨j, L[j], w1, by simp [hj], hal, ?_⟩
    have hb1 : w1.heap[b]? = some (.mapIter (some bm) clock seen clock) := by rcases hal with rfl | rfl <;> exact hb
    have hset : ∀ o' : Obj, (setObj b o').run P w1 = .ok () { w1 with heap := w1.heap.setIfInBounds b o' } := fun o' => by
      simp only [setObj, Sem.run, hb1]
    simp only [hrun, Array.getElem?_map, Array.getElem?_eq_getElem hj, Option.map_some, Sem.run_bind, hset, Result.andThen]
    rfl

theorem op_next {E : Env} {o : Oper} {K : St → Prop} {x : Operand} {isS : Bool} (ho : o.op = .next x isS) (hR : R Γ s c E.N a w) (h : opX E o s K) : OpOk E Γ o s c a w K := by
  have hx := evalO_rel hR x
  unfold opX at h; rw [ho] at h; simp only at h
  cases isS with
  | true => exact h.elim
  | false =>
    simp only [cond_false] at h
    unfold nextX at h
    split at h
    · rename_i id ex
      rw [ex] at hx
      simp only [RelAV] at hx
      cases hlk : lockedB s id with
      | true => rw [hlk] at h; exact h.elim
      | false =>
        rw [hlk] at h
        simp only [cond_false] at h
        split at h
        · rename_i mid k v todo cur hL
          obtain ⟨es, b, bm, entries, clock, seen, r0, r1, r2, r3, r4, r5, r6, r7, r8, r9⟩ : ObjRel s.L c w (c.m id) (.iter mid k v todo cur) := hR.rw_.objs id _ hL
          have hxv : a.eval x = .pointer (some ⟨b, 0, none⟩) := by rw [hx.2, r1]
          have hq : quietOp E o.op = false := by rw [ho]; rfl
          have hlock : id ∉ s.lock := lockedB_false hlk
          rcases run_next (P := E.P) o.type r2 r4 r6 with ⟨h0, hrun⟩ | ⟨j, e, w1, hj, hw1, hrun⟩
          · have htd : todo = [] := by
              rw [h0] at r8
              cases todo with
              | nil => rfl
              | cons _ _ => exact r8.elim
            have he : List.isEmpty todo = true := by rw [htd]; rfl
            rw [he] at h
            simp only [cond_true] at h
            refine OpOk.step hR h (Adv.refl s c w) rfl hR.rw_ ?_ ?_ (fun _ => Ext.refl w) (v := .tuple #[.bool false])
            · unfold execOp; rw [ho]; simp only [hxv, Sem.run_bind, hrun, Result.andThen_ok, Sem.run_pure]
            · simp only [RelAV, RelAVs]
              exact ⟨_, rfl, .bool false, [], rfl, bool_val _ _ _, rfl⟩
          · have hjl : j < todo.length := by rw [All2.len r8]; exact (List.getElem?_eq_some_iff.1 hj).1
            have he : List.isEmpty todo = false := by
              cases todo with
              | nil => simp at hjl
              | cons _ _ => rfl
            rw [he] at h
            simp only [cond_false] at h
            have h := h j hjl
            have hget : todo[j]? = some (todo.getD j (k.dflt, v.dflt)) := by simp [hjl]
            have her := All2.get _ _ j _ _ r8 hget hj
            generalize todo.getD j (k.dflt, v.dflt) = p at h hget her
            -- the world behind a draw
            obtain ⟨d1, d2⟩ : RW Γ s.L c w1 ∧ Adv s c w s c w1 := by
              rcases hw1 with rfl | rfl
              · exact ⟨hR.rw_, Adv.refl _ _ _⟩
              · exact ⟨hR.rw_.drew.1, hR.rw_.drew.2, rfl, fun _ _ _ ho => ⟨ho, rfl, fun _ _ => rfl⟩⟩
            have hheap : w1.heap = w.heap := by rcases hw1 with rfl | rfl <;> rfl
            have hb1 : w1.heap[b]? = some (.mapIter (some bm) clock seen clock) := by rw [hheap]; exact r2
            have hhs := MapKept.heap_set (o' := .mapIter (some bm) clock (seen.push e.born) clock) hb1
            have hblt : b < w1.heap.size := (Array.getElem?_eq_some_iff.1 hb1).1
            have hne : bm ≠ b := fun e => by rw [e] at r4; rw [r2] at r4; cases r4
            have hh' : ∀ b', b' < w1.heap.size → ¬ Owns (.iter mid k v todo cur) (c.m id) b' → ({ w1 with heap := w1.heap.setIfInBounds b (.mapIter (some bm) clock (seen.push e.born) clock) } : World).heap[b']? = w1.heap[b']? :=
              fun b' _ hno => hhs.2 b' (fun e => hno (by rw [e]; exact r1))
            obtain ⟨k1, k2⟩ := d1.chg hL (o' := .iter mid k v (todo.eraseIdx j) (some p)) (v' := c.m id) (w' := { w1 with heap := w1.heap.setIfInBounds b (.mapIter (some bm) clock (seen.push e.born) clock) }) ⟨rfl, rfl, rfl, by simp⟩ hh'
              (fun b' hb' => ⟨.inl hb', by
                have : b = b' := by rw [r1] at hb'; simpa [Owns] using hb'
                simp; omega⟩) (by simp [Evol]) (iter_ne d1 hL (by intro _ _ _ e; cases e))
              (fun hst => by
                have hmid : (s.L.set id (.iter mid k v (todo.eraseIdx j) (some p)))[mid]? = some (.map k v es) := by
                  rw [List.getElem?_set_ne (fun e => by rw [← e] at r0; rw [hL] at r0; cases r0)]; exact r0
                have hcm : (c.set id (c.m id)).m mid = .map (some bm) := by
                  simp only [Ctx.set]
                  split
                  · rename_i e; rw [← e]; exact r3
                  · exact r3
                have hem : e ∈ entries.toList := (List.mem_filter.1 (List.mem_of_getElem? hj)).1
                have mono : ∀ p e, entryRel c.S w k v p e → entryRel (c.set id (c.m id)).S { w1 with heap := w1.heap.setIfInBounds b (.mapIter (some bm) clock (seen.push e.born) clock) } k v p e := by
                  intro p e' hpe
                  refine hpe.mono (fun _ h => h) (fun b' hb' => ?_)
                  have : b' ≠ b := fun e => (hR.rw_.owns id _ b hL r1).2.2 (e ▸ hb')
                  show (w1.heap.setIfInBounds b _)[b']? = _
                  rw [Array.getElem?_setIfInBounds_ne (Ne.symm this), hheap]
                have mono' : ∀ p e', entryRel c.S w k v p e' → entryRel (c.set id (c.m id)).S { w1 with heap := w1.heap.setIfInBounds b (.mapIter (some bm) clock (seen.push e.born) clock) } k v p e' := by
                  intro p e' hpe
                  refine hpe.mono (fun _ h => h) (fun b' hb' => ?_)
                  have : b' ≠ b := fun e => (hR.rw_.owns id _ b hL r1).2.2 (e ▸ hb')
                  show (w1.heap.setIfInBounds b _)[b']? = _
                  rw [Array.getElem?_setIfInBounds_ne (Ne.symm this), hheap]
                refine ⟨es, b, bm, entries, clock, seen.push e.born, hmid, r1, hhs.1, hcm, ?_, r5, r6, r7, ?_, fun q hq => ?_⟩
                · show (w1.heap.setIfInBounds b _)[bm]? = _
                  rw [Array.getElem?_setIfInBounds_ne (Ne.symm hne), hheap]; exact r4
                · rw [left_erase _ j e r7 hj]
                  exact All2.imp mono' _ _ (All2.erase _ _ j r8)
                · simp only [Option.some.injEq] at hq
                  subst hq
                  exact ⟨e, e.born, by simp, rfl, hem, mono' _ _ her⟩)
            refine OpOk.step hR h (d2.trans (Adv.chg k2 d1 hL hlock hh')) rfl k1 ?_ ?_ (fun e => by rw [hq] at e; cases e) (v := .tuple #[.bool true, e.key, e.val])
            · unfold execOp; rw [ho]; simp only [hxv, Sem.run_bind, hrun, Result.andThen_ok, Sem.run_pure]
            · have mono2 : ∀ t x u, Ty.val c.S w t x u → Ty.val c.S { w1 with heap := w1.heap.setIfInBounds b (.mapIter (some bm) clock (seen.push e.born) clock) } t x u := by
                intro t x u hu
                refine Ty.val_mono (fun _ h => h) (fun b' hb' => ?_) hu
                have : b' ≠ b := fun e => (hR.rw_.owns id _ b hL r1).2.2 (e ▸ hb')
                show (w1.heap.setIfInBounds b _)[b']? = _
                rw [Array.getElem?_setIfInBounds_ne (Ne.symm this), hheap]
              simp only [RelAV, RelAVs]
              exact ⟨_, rfl, .bool true, [e.key, e.val], rfl, bool_val _ _ _, e.key, [e.val], rfl, mono2 _ _ _ her.1, e.val, [], rfl, mono2 _ _ _ her.2, rfl⟩
        · exact h.elim
    · exact h.elim

theorem op_entry {E : Env} {o : Oper} {K : St → Prop} {x : Operand} (ho : o.op = .entry x) (hR : R Γ s c E.N a w) (h : opX E o s K) : OpOk E Γ o s c a w K := by
  have hx := evalO_rel hR x
  unfold opX at h; rw [ho] at h; simp only at h
  unfold entryX at h
  split at h
  · rename_i id ex
    rw [ex] at hx
    simp only [RelAV] at hx
    split at h
    · rename_i mid k v todo p hL
      obtain ⟨es, b, bm, entries, clock, seen, r0, r1, r2, r3, r4, r5, r6, r7, r8, r9⟩ : ObjRel s.L c w (c.m id) (.iter mid k v todo (some p)) := hR.rw_.objs id _ hL
      obtain ⟨e, stamp, q1, q2, q3, q4⟩ := r9 p rfl
      have hxv : a.eval x = .pointer (some ⟨b, 0, none⟩) := by rw [hx.2, r1]
      have hf : entries.find? (·.born == stamp) = some e := by rw [← q2, ← Array.find?_toList]; exact find_born e entries.toList r7 q3
      have hrun : (Instr.entry (.pointer (some ⟨b, 0, none⟩))).run E.P w = .ok (.tuple #[e.key, e.val]) w := by
        simp only [Instr.entry, getObj, Sem.run_bind, Sem.run, r2, r4, Result.andThen, q1, bne_self_eq_false, Bool.false_eq_true, if_false, hf]
        rfl
      refine OpOk.step hR h (Adv.refl s c w) rfl hR.rw_ ?_ ?_ (fun _ => Ext.refl w) (v := .tuple #[e.key, e.val])
      · unfold execOp; rw [ho]; simp only [hxv, Sem.run_bind, hrun, Result.andThen_ok, Sem.run_pure]
      · simp only [RelAV, RelAVs]
        exact ⟨_, rfl, e.key, [e.val], rfl, q4.1, e.val, [], rfl, q4.2, rfl⟩
    · exact h.elim
  · exact h.elim
end

end Go.Proofs.Ytodjomdnlcledaa.X
