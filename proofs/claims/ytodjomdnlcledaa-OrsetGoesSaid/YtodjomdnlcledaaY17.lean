/- What comes in as arguments is data. -/
import Derived.Test.YtodjomdnlcledaaY16
import Derived.ProofKit
import Derived.Deep.Slices
namespace Go.Proofs.Ytodjomdnlcledaa.X
open Go Go.RowKit
set_option linter.unusedSimpArgs false
set_option linter.unusedVariables false

/-- Bounds of what comes in. -/
def Ty.ok : (t : Ty) → t.den → Prop
  | .int k, x => (Lit.int k x).wf = true
  | .bool, _ => True
  | .str, s => ByteArray.size s ≤ reachBytes
  | .arr n k, l => List.length (l : List Int) = n ∧ ∀ y ∈ (l : List Int), (Lit.int k y).wf = true
  | .slice e, l => List.length (l : List e.den) ≤ reachBytes ∧ ∀ y ∈ (l : List e.den), Ty.ok e y
  | .ref _, _ => True
  | .pair a b, x => Ty.ok a x.1 ∧ Ty.ok b x.2
  | .unit, _ => True

/-- The fields of a struct, one by one. -/
def fieldsB (rd : TypeId → Ty → Bool) (sz : TypeId → Nat → Bool) : List Field → Nat → Ty → Bool
  | [], _, _ => false
  | [f], off, u => Nat.beq f.offset off && sz f.type u.size && rd f.type u
  | f :: g :: r, off, .pair a b => Nat.beq f.offset off && sz f.type a.size && rd f.type a && fieldsB rd sz (g :: r) (off + a.size) b
  | _, _, _ => false

/-- A Go type is read as data of this type. -/
def readB (P : Program) : Nat → TypeId → Ty → Bool
  | 0, _, _ => false
  | n + 1, t, u => match P.underlying t, u with
    | some (.int k), .int k' => decide (k = k')
    | some .bool, .bool => true
    | some .string, .str => true
    | some (.array m e), .arr m' k => Nat.beq m m' && szB P e 1 && szB P t m && (match P.underlying e with | some (.int k') => decide (k = k') | _ => false)
    | some (.slice e), .slice v => szB P e v.size && Nat.ble 1 (P.bytesOf e) && Nat.ble 1 v.size && readB P n e v
    | some (.struct fs), u => u.isAgg && szB P t u.size && fieldsB (readB P n) (szB P) fs.toList 0 u
    | _, _ => false

theorem szB_cellsOf {P : Program} {t : TypeId} {n : Nat} (h : szB P t n = true) : P.cellsOf t = n := by
  unfold szB at h
  split at h
  · rename_i i hi
    simp only [Program.cellsOf, hi, Option.map_some, Option.getD_some]
    exact Nat.eq_of_beq_eq_true h
  · cases h

section
variable {H : Type} {enc : TypeId × Value → H} {P : Program} {w : World} {spare : Nat → Bool} {held : Bool}

/-- Cells from a place on hold a datum. -/
def CellsAre (w : World) (u : Ty) (x : u.den) (cs : List Value) : Prop :=
  cs.length = u.size ∧ ∀ j, j < u.size → ∃ c, cs[j]? = some c ∧ u.cell (fun b => b < w.heap.size) w x j c

theorem CellsAre.one {u : Ty} (hu : u.size = 1) {x : u.den} {c : Value} (h : u.cell (fun b => b < w.heap.size) w x 0 c) : CellsAre w u x [c] :=
  ⟨by rw [hu]; rfl, fun j hj => ⟨c, by have : j = 0 := by omega
                                       subst this; rfl, by have : j = 0 := by omega
                                                           subst this; exact h⟩⟩

theorem weightsAll_mem {e : TypeId} : ∀ {l : List (DataW H)} {d : DataW H}, d ∈ l → ∀ n ∈ d.weights P e, n ∈ DataW.weightsAll P e l
  | x :: l, d, hd, n, hn => by
    simp only [DataW.weightsAll, List.mem_append]
    rcases List.mem_cons.1 hd with rfl | hd
    · exact .inl hn
    · exact .inr (weightsAll_mem hd n hn)
  | [], d, hd, n, hn => by cases hd

/-- How heavy a reading is. -/
def Light (P : Program) (t : TypeId) (d : DataW H) : Prop := ∀ n ∈ d.weights P t, n ≤ reachBytes

theorem cells?_some {a : Addr} {n : Nat} {cs : List Value} (hn : 0 < n) (h : w.cells? 0 a n = some cs) : a = ⟨a.block, a.off, none⟩ ∧ a.block < w.heap.size ∧ cs.length = n ∧ ∀ i, i < n → w.cell? ⟨a.block, a.off + i, none⟩ = cs[i]? := by
  unfold World.cells? at h
  rw [if_pos (Nat.zero_le _)] at h
  have hlen : cs.length = n := by simpa using mapM_some_length h
  have hget : ∀ i, i < n → w.cell? (a.add i) = cs[i]? := fun i hi => mapM_some_get h i i (by simp [hi])
  have h0 := hget 0 hn
  rw [List.getElem?_eq_getElem (by omega)] at h0
  have hs : a.spot = none := by
    cases hsp : a.spot with
    | none => rfl
    | some s =>
      exfalso
      have hsp' : (a.add 0).spot = some s := by simp [Addr.add, hsp]
      unfold World.cell? at h0
      simp only [hsp'] at h0
      split at h0
      · simp at h0
      · cases h0
  have ha : a = ⟨a.block, a.off, none⟩ := by
    cases a; simp only at hs; subst hs; rfl
  refine ⟨ha, ?_, hlen, fun i hi => ?_⟩
  · have : w.heap[a.block]? ≠ none := by
      intro hz
      unfold World.cell? at h0
      have : (a.add 0).block = a.block := rfl
      rw [this, hz] at h0
      cases h0
    rcases Nat.lt_or_ge a.block w.heap.size with h' | h'
    · exact h'
    · exact absurd (Array.getElem?_eq_none h') this
  · rw [← hget i hi, ha, WideShapes.add_plain]

theorem trod_array {e : TypeId} {m fuel : Nat} {t : TypeId} {cs : List Value} {x : DataW H × List MemPlace} (ht : P.underlying t = some (.array m e)) (h : DataW.trod enc P w 0 spare held fuel t cs = some x) :
    ∃ (xs : List (DataW H × List MemPlace)) (n : Nat), fuel = n + 1 ∧ cs.length = P.cellsOf t ∧ xs.length = m ∧
      ∀ i, i < m → DataW.trod enc P w 0 spare held n e ((cs.drop (i * P.cellsOf e)).take (P.cellsOf e)) = xs[i]? := by
  cases fuel with
  | zero => simp [DataW.trod] at h
  | succ n =>
    unfold DataW.trod at h
    rw [ht] at h
    split at h <;> simp_all
    obtain ⟨hl, xs, hp, hd⟩ := h
    exact ⟨xs, by simpa using mapM_some_length hp, fun i hi => mapM_some_get hp i i (by simp [hi])⟩

/-- Data, of this type and bounded, lie in cells that are read. -/
def Reads (P : Program) (w : World) (n : Nat) (spare : Nat → Bool) (held : Bool) (enc : TypeId × Value → H) (rd : TypeId → Ty → Bool) : Prop :=
  ∀ (t : TypeId) (u : Ty) (cs : List Value) (d : DataW H) (ps : List MemPlace), rd t u = true → DataW.trod enc P w 0 spare held n t cs = some (d, ps) → Light P t d → ∃ x : u.den, u.ok x ∧ CellsAre w u x cs

theorem fields_read {n m : Nat} (ih : Reads P w n spare held enc (readB P m)) (cs : List Value) : ∀ (fs : List Field) (off : Nat) (u : Ty) (xs : List (DataW H × List MemPlace)), fieldsB (readB P m) (szB P) fs off u = true →
    xs.length = fs.length → (∀ (i : Nat) (f : Field), fs[i]? = some f → DataW.trod enc P w 0 spare held n f.type ((cs.drop f.offset).take (P.cellsOf f.type)) = xs[i]?) →
    (∀ k ∈ DataW.weightsEach P (fs.map (·.type)) (xs.map (·.1)), k ≤ reachBytes) → ∃ x : u.den, u.ok x ∧ ∀ j, j < u.size → ∃ c, cs[off + j]? = some c ∧ u.cell (fun b => b < w.heap.size) w x j c
  | [], off, u, xs, h, _, _, _ => by simp [fieldsB] at h
  | [f], off, u, xs, h, hl, ht, hw => by
    simp only [fieldsB, Bool.and_eq_true] at h
    obtain ⟨⟨h1, h2⟩, h3⟩ := h
    have ho := Nat.eq_of_beq_eq_true h1
    have hz := szB_cellsOf h2
    match xs, hl with
    | [y], _ =>
      have := ht 0 f rfl
      simp only [List.getElem?_cons_zero] at this
      obtain ⟨x, hx, hc, hr⟩ := ih _ _ _ _ _ h3 this (fun k hk => hw k (by simp only [List.map_cons, List.map_nil, DataW.weightsEach, List.append_nil]; exact hk))
      refine ⟨x, hx, fun j hj => ?_⟩
      obtain ⟨c, k1, k2⟩ := hr j hj
      rw [hz, List.getElem?_take_of_lt hj, List.getElem?_drop, ho] at k1
      exact ⟨c, k1, k2⟩
  | f :: g :: r, off, u, xs, h, hl, ht, hw => by
    cases u with
    | pair a b =>
      simp only [fieldsB, Bool.and_eq_true] at h
      obtain ⟨⟨⟨h1, h2⟩, h3⟩, h4⟩ := h
      have ho := Nat.eq_of_beq_eq_true h1
      have hz := szB_cellsOf h2
      match xs, hl with
      | y :: ys, hl =>
        have h0 := ht 0 f rfl
        simp only [List.getElem?_cons_zero] at h0
        simp only [List.map_cons, DataW.weightsEach, List.mem_append] at hw
        obtain ⟨x, hx, hc, hr⟩ := ih _ _ _ _ _ h3 h0 (fun k hk => hw k (.inl hk))
        obtain ⟨x', hx', hr'⟩ := fields_read ih cs (g :: r) (off + a.size) b ys h4 (by simpa using hl) (fun i f' hf => by
          have := ht (i + 1) f' (by simpa using hf)
          simpa using this) (fun k hk => hw k (.inr (by simpa only [List.map_cons] using hk)))
        refine ⟨(x, x'), ⟨hx, hx'⟩, fun j hj => ?_⟩
        simp only [Ty.size] at hj
        simp only [Ty.cell]
        by_cases hja : j < a.size
        · obtain ⟨c, k1, k2⟩ := hr j hja
          rw [hz, List.getElem?_take_of_lt hja, List.getElem?_drop, ho] at k1
          exact ⟨c, k1, by rw [if_pos hja]; exact k2⟩
        · obtain ⟨c, k1, k2⟩ := hr' (j - a.size) (by omega)
          rw [show off + a.size + (j - a.size) = off + j by omega] at k1
          exact ⟨c, k1, by rw [if_neg hja]; exact k2⟩
    | _ => simp [fieldsB] at h

theorem list_of {α : Type} (n : Nat) (p : Nat → α → Prop) (h : ∀ i, i < n → ∃ x, p i x) : ∃ l : List α, l.length = n ∧ ∀ i x, l[i]? = some x → p i x := by
  induction n with
  | zero => exact ⟨[], rfl, fun i x h => by simp at h⟩
  | succ n ih =>
    obtain ⟨l, h1, h2⟩ := ih (fun i hi => h i (by omega))
    obtain ⟨x, hx⟩ := h n (by omega)
    refine ⟨l ++ [x], by simp [h1], fun i y hy => ?_⟩
    by_cases hi : i < l.length
    · rw [List.getElem?_append_left hi] at hy
      exact h2 i y hy
    · rw [List.getElem?_append_right (by omega)] at hy
      have : i = n := by
        have := (List.getElem?_eq_some_iff.1 hy).1
        simp at this; omega
      subst this
      rw [h1] at hy
      simp at hy
      subst hy; exact hx

theorem trod_read : ∀ (m n : Nat), Reads P w n spare held enc (readB P m)
  | 0, n => fun t u cs d ps h _ _ => by simp [readB] at h
  | m + 1, n => fun t u cs d ps h ht hl => by
    unfold readB at h
    split at h
    · rename_i k k' hu
      have hk := of_decide_eq_true h
      subst hk
      obtain ⟨q, rfl, _, hw⟩ := DataW.trod_int hu ht
      exact ⟨q, hw, CellsAre.one rfl rfl⟩
    · rename_i hu
      obtain ⟨b, rfl, _⟩ := DataW.trod_bool hu ht
      exact ⟨b, trivial, CellsAre.one rfl rfl⟩
    · rename_i hu
      obtain ⟨s, rfl, hd, _⟩ := DataW.trod_string hu ht
      refine ⟨s, ?_, CellsAre.one rfl rfl⟩
      have hd := (Prod.mk.injEq .. ▸ hd).1
      subst hd
      have := hl s.data.toList.length (by simp [DataW.weights])
      simpa [Ty.ok] using this
    · rename_i a e a' k hu
      simp only [Bool.and_eq_true] at h
      obtain ⟨⟨⟨h1, h2⟩, h3⟩, h4⟩ := h
      have := Nat.eq_of_beq_eq_true h1
      subst this
      obtain ⟨xs, n', rfl, hc, hx, hr⟩ := trod_array hu ht
      have hz := szB_cellsOf h2
      have hzt := szB_cellsOf h3
      split at h4
      · rename_i k' hk
        have := of_decide_eq_true h4
        subst this
        obtain ⟨l, hl1, hl2⟩ := list_of a (fun i q => cs[i]? = some (.int k q) ∧ (Lit.int k q).wf = true) (fun i hi => by
          have hi2 := hr i hi
          rw [List.getElem?_eq_getElem (by omega)] at hi2
          obtain ⟨q, hq, _, hw⟩ := DataW.trod_int hk hi2
          refine ⟨q, ?_, hw⟩
          rw [hz, Nat.mul_one] at hq
          have hq0 := congrArg (fun l => l[0]?) hq
          simpa using hq0)
        refine ⟨l, ⟨hl1, fun y hy => ?_⟩, by rw [hc, hzt]; rfl, fun j hj => ?_⟩
        · obtain ⟨i, hi, rfl⟩ := List.mem_iff_getElem.1 hy
          exact (hl2 i _ (List.getElem?_eq_getElem hi)).2
        · simp only [Ty.size] at hj
          have := hl2 j _ (List.getElem?_eq_getElem (by omega))
          exact ⟨_, this.1, by simp only [Ty.cell, List.getD_eq_getElem?_getD, List.getElem?_eq_getElem (show j < l.length by omega), Option.getD_some]⟩
      · cases h4
    · rename_i e v hu
      simp only [Bool.and_eq_true] at h
      obtain ⟨⟨⟨h1, h2⟩, h3⟩, h4⟩ := h
      have hz := szB_cellsOf h1
      have hb := Nat.le_of_ble_eq_true h2
      have hvs := Nat.le_of_ble_eq_true h3
      rcases DataW.trod_slice hu ht with ⟨rfl, _⟩ | ⟨a, len, cap, elems, rest, n', rfl, rfl, hd, _, hlc, _, hel, hget, _, _⟩
      · refine ⟨[], ⟨Nat.zero_le _, fun y hy => by cases hy⟩, CellsAre.one rfl ?_⟩
        exact ⟨none, 0, rfl, Nat.le_refl _, fun _ => rfl, fun h => absurd rfl h⟩
      · have hd := (Prod.mk.injEq .. ▸ hd).1
        subst hd
        have hw : ∀ k ∈ DataW.weights P t (.slice (elems.map (·.1)) (rest.map (·.1))), k ≤ reachBytes := hl
        simp only [DataW.weights, hu, List.mem_cons, List.mem_append] at hw
        have hlen := hw _ (.inl rfl)
        simp only [List.length_map] at hlen
        have hspot : 0 < len → a = ⟨a.block, a.off, none⟩ := fun h0 => by
          have hi2 := hget 0 h0
          rw [List.getElem?_eq_getElem (by omega)] at hi2
          obtain ⟨cs', k1, k2⟩ := Option.bind_eq_some_iff.1 hi2
          have e0 : a.add (0 * P.cellsOf e) = a := by rw [Nat.zero_mul]; simp [Addr.add]
          rw [e0] at k1
          exact (cells?_some (by omega) k1).1
        obtain ⟨l, hl1, hl2⟩ := list_of len (fun i (x : v.den) => v.ok x ∧ (∃ a', a = a' ∧ ∃ b o, a = ⟨b, o, none⟩ ∧ b < w.heap.size ∧ ∀ j, j < v.size → ∃ c, w.cell? ⟨b, o + (i * v.size + j), none⟩ = some c ∧ v.cell (fun b => b < w.heap.size) w x j c)) (fun i hi => by
          have hi2 := hget i hi
          rw [List.getElem?_eq_getElem (by omega)] at hi2
          obtain ⟨cs', k1, k2⟩ := Option.bind_eq_some_iff.1 hi2
          obtain ⟨x, hx, hxl, hxc⟩ := trod_read m n' e v cs' _ _ h4 k2 (fun k hk => hw k (.inr (.inl (weightsAll_mem (d := elems[i].1) (List.mem_map.2 ⟨_, List.getElem_mem _, rfl⟩) k hk))))
          have ha := hspot (by omega)
          rw [ha, WideShapes.add_plain] at k1
          obtain ⟨q1, q2, q3, q4⟩ := cells?_some (by omega) k1
          refine ⟨x, hx, a, rfl, a.block, a.off, ha, q2, fun j hj => ?_⟩
          obtain ⟨c, g1, g2⟩ := hxc j hj
          refine ⟨c, ?_, g2⟩
          have := q4 j (by omega)
          rw [g1] at this
          rw [← this, hz, Nat.add_assoc])
        refine ⟨l, ⟨?_, fun y hy => ?_⟩, CellsAre.one rfl ?_⟩
        · have : len * 1 ≤ (elems.length + rest.length) * P.bytesOf e := Nat.mul_le_mul (by omega) hb
          omega
        · obtain ⟨i, hi, rfl⟩ := List.mem_iff_getElem.1 hy
          exact (hl2 i _ (List.getElem?_eq_getElem hi)).1
        · refine ⟨some a, cap, by rw [hl1], by omega, fun h => by (cases h), fun hne => ?_⟩
          have hpos : 0 < l.length := List.length_pos_iff.2 hne
          obtain ⟨_, _, _, b, o, ha, hb', _⟩ := hl2 0 _ (List.getElem?_eq_getElem hpos)
          refine ⟨b, o, by rw [ha], hb', fun i x hx j hj => ?_⟩
          obtain ⟨_, _, _, b2, o2, ha2, _, hc2⟩ := hl2 i x hx
          rw [ha] at ha2
          injection ha2 with e1 e2
          subst e1; subst e2
          exact hc2 j hj
    · rename_i fs hu
      simp only [Bool.and_eq_true] at h
      obtain ⟨⟨_, h2⟩, h3⟩ := h
      obtain ⟨xs, n', rfl, hd, hc, hx, hr⟩ := DataW.trod_struct hu ht
      have hd := (Prod.mk.injEq .. ▸ hd).1
      subst hd
      have hw : ∀ k ∈ DataW.weights P t (.agg (xs.map (·.1))), k ≤ reachBytes := hl
      simp only [DataW.weights, hu] at hw
      obtain ⟨x, hx', hcs⟩ := fields_read (trod_read m n') cs fs.toList 0 _ xs h3 (by simpa using hx) (fun i f hf => hr i f (by simpa using hf)) hw
      exact ⟨x, hx', by rw [hc, szB_cellsOf h2], fun j hj => by simpa using hcs j hj⟩
    · cases h

/-- One argument. -/
theorem arg_read {m : Nat} {t : TypeId} {u : Ty} {v : Value} {d : DataW H} {ps : List MemPlace} (hb : readB P m t u = true) (hd : DataW.Trod enc P w 0 spare held t v d ps) (hok : ∃ r b0, Value.okWide P w r b0 t v) (hl : Light P t d) :
    ∃ x : u.den, u.ok x ∧ u.val (fun b => b < w.heap.size) w x v := by
  obtain ⟨fuel, hf⟩ := hd
  obtain ⟨x, hx, hc⟩ := trod_read m fuel t u _ d ps hb hf hl
  refine ⟨x, hx, ?_, ?_, fun j hj => ?_⟩
  · obtain ⟨r, b0, hok⟩ := hok
    cases m with
    | zero => simp [readB] at hb
    | succ m =>
      unfold readB at hb
      unfold Value.okWide at hok
      split at hb <;> rename_i hu <;> first
        | (rw [hu] at hok; simp only at hok
           first
             | (obtain ⟨cs, rfl, _⟩ := hok; first | rfl | (simp only [Bool.and_eq_true] at hb; rw [hb.1.1]; rfl))
             | (unfold Cell.okWide at hok; rw [hu] at hok; unfold Cell.ok at hok; rw [hu] at hok
                cases v <;> simp at hok <;> rfl))
        | cases hb
  · have := hc.1
    simpa using this
  · obtain ⟨c, h1, h2⟩ := hc.2 j hj
    exact ⟨c, by simpa using h1, h2⟩
end
end Go.Proofs.Ytodjomdnlcledaa.X
